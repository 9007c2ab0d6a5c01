/-
  Rows of the nodes beside each node, in memory. No conditions.
-/
import Derived.Test.YtakjakglkfhaaaaDoorSrt
import Derived.Test.YtakjakglkfhaaaaDoorQw
import Derived.Deep.RegionLaw
namespace Go.Proofs.YtakjakglkfhaaaaDoor
open Go Go.RowKit
set_option linter.unusedVariables false

theorem infoR : (Tryd.prog.info? 53).map (fun i => (i.zero, i.size, i.bytes)) = some (some (.slice none 0 0), 1, 24) := by kernel_rfl
theorem run_rows (n : Nat) (h : n ≤ 1000) : ∃ cs : Array Value, cs.toList = List.replicate n (Value.slice none 0 0) ∧ ∀ w : World,
    (Instr.makeSlice 80 (.int .i64 (n : Int)) (.int .i64 (n : Int))).run Tryd.prog w = .ok (.slice (some ⟨w.heap.size, 0, none⟩) n n) (w.alloc (.cells cs 53)) := by
  obtain ⟨i, hi, hz0, hz1, hz2⟩ := info_parts infoR
  refine ⟨madeCells (Value.slice none 0 0).cells (n * i.size), ?_, fun w => ?_⟩
  · rw [hz1]; show (madeCells #[Value.slice none 0 0] (n * 1)).toList = _; rw [toList_madeCells_one]; simp
  · have := run_make w 80 53 i _ Tryd.underlying80 hi hz0 .i64 .i64 (n : Int) (n : Int) (by omega) (Int.le_refl _) (by rw [hz2]; omega) (by omega)
    simpa using this
/-- Those beside a node, as the edges tell them. -/
def nbs (l : List AK.Ed) (v : Nat) : List Int := l.flatMap fun x => (if x.1 = (v : Int) then [x.2] else []) ++ (if x.2 = (v : Int) then [x.1] else [])
theorem nbs_snoc (l : List AK.Ed) (x : AK.Ed) (v : Nat) : nbs (l ++ [x]) v = nbs l v ++ ((if x.1 = (v : Int) then [x.2] else []) ++ (if x.2 = (v : Int) then [x.1] else [])) := by simp [nbs]
theorem nbs_mem {l : List AK.Ed} {v : Nat} {y : Int} : y ∈ nbs l v ↔ ((v : Int), y) ∈ l ∨ (y, (v : Int)) ∈ l := by
  simp only [nbs, List.mem_flatMap, List.mem_append]
  constructor
  · rintro ⟨⟨a, b⟩, hx, h | h⟩
    · by_cases e : a = (v : Int)
      · rw [if_pos e] at h; simp at h; subst h; subst e; exact .inl hx
      · rw [if_neg e] at h; simp at h
    · by_cases e : b = (v : Int)
      · rw [if_pos e] at h; simp at h; subst h; subst e; exact .inr hx
      · rw [if_neg e] at h; simp at h
  · rintro (h | h)
    · exact ⟨_, h, .inl (by simp)⟩
    · exact ⟨_, h, .inr (by simp)⟩
theorem nbs_len (l : List AK.Ed) (v : Nat) : (nbs l v).length ≤ 2 * l.length := by
  induction l with
  | nil => simp [nbs]
  | cons x l ih =>
    have e : nbs (x :: l) v = ((if x.1 = (v : Int) then [x.2] else []) ++ (if x.2 = (v : Int) then [x.1] else [])) ++ nbs l v := by simp [nbs]
    rw [e, List.length_append, List.length_append, List.length_cons]
    split <;> split <;> simp <;> omega
def upd (R : Nat → List Int) (a : Nat) (r : List Int) : Nat → List Int := fun v => if v = a then r else R v
def updV (V : Nat → Value) (a : Nat) (x : Value) : Nat → Value := fun v => if v = a then x else V v
def rowV (n : Nat) (V : Nat → Value) : Array Value := ((List.range n).map V).toArray
theorem rowV_get {n : Nat} {V : Nat → Value} {v : Nat} (h : v < n) : (rowV n V)[v]? = some (V v) := by simp [rowV, h]
theorem rowV_set {n : Nat} {V : Nat → Value} {a : Nat} {x : Value} (h : a < n) : (rowV n V).setIfInBounds a x = rowV n (updV V a x) := by
  apply Array.ext_getElem?
  intro j
  rw [Array.getElem?_setIfInBounds]
  by_cases e : a = j
  · subst e; rw [if_pos rfl, if_pos (by simp [rowV, h]), rowV_get h]; simp [updV]
  · rw [if_neg e]
    by_cases hj : j < n
    · rw [rowV_get hj, rowV_get hj]; simp [updV, show j ≠ a from fun h => e h.symm]
    · rw [Array.getElem?_eq_none (by simp [rowV]; omega), Array.getElem?_eq_none (by simp [rowV]; omega)]
/-- Rows as they lie. -/
structure BsV (w : World) (n G : Nat) (R : Nat → List Int) (V : Nat → Value) (wr : World) : Prop where
  blk : Blk wr G 53 (rowV n V)
  row : ∀ v, v < n → wr.ownsRow 0 3 1 (V v) (R v).length (intsV (R v))
  new : ∀ v, v < n → ∀ k, (V v).ownBlock = some k → w.heap.size ≤ k
  two : ∀ u v, u < n → v < n → u ≠ v → ∀ k, (V u).ownBlock = some k → (V v).ownBlock ≠ some k
  ext : Ext w wr
  G : w.heap.size ≤ G
theorem BsV.moved {w wr w' : World} {n G : Nat} {R : Nat → List Int} {V : Nat → Value} (h : BsV w n G R V wr) (hx : Ext wr w') : BsV w n G R V w' :=
  ⟨h.blk.chg (Chg.of_below hx) (by have := h.blk.lt; omega), fun v hv => own_chg (h.row v hv) (Chg.of_below hx) (fun k hk => by have := own_lt (h.row v hv) hk; omega), h.new, h.two, Ext.trans h.ext hx, h.G⟩
theorem BsV.cell {w wr : World} {n G : Nat} {R : Nat → List Int} {V : Nat → Value} (h : BsV w n G R V wr) {a : Nat} (ha : a < n) : wr.cell? ⟨G, a, none⟩ = some (V a) ∧ wr.frozen? ⟨G, a, none⟩ = false :=
  ⟨by rw [h.blk.cell, rowV_get ha], h.blk.frozen a⟩
theorem BsV.apart {w wr : World} {n G : Nat} {R : Nat → List Int} {V : Nat → Value} (h : BsV w n G R V wr) {a : Nat} (ha : a < n) : (V a).ownBlock ≠ some G := own_ne (h.row a ha) h.blk (by decide)
/-- One node more beside another. -/
theorem BsV.push {w w2 w' : World} {n G a g c : Nat} {R : Nat → List Int} {V : Nat → Value} {x : Int} (h : BsV w n G R V w2) (ha : a < n)
    (ho : w'.ownsRow 0 3 1 (.slice (some ⟨g, 0, none⟩) ((R a).length + 1) c) ((R a).length + 1) (intsV (R a) ++ [.int .i64 x])) (hc : Chg (fun k => (V a).ownBlock = some k) w2 w') (hat : (V a).ownBlock = some g ∨ g = w2.heap.size) :
    w'.cell? ⟨G, a, none⟩ = some (V a) ∧ w'.frozen? ⟨G, a, none⟩ = false ∧ Hid (BsV w n G (upd R a (R a ++ [x])) (updV V a (.slice (some ⟨g, 0, none⟩) ((R a).length + 1) c)) (w'.setCell ⟨G, a, none⟩ (.slice (some ⟨g, 0, none⟩) ((R a).length + 1) c))) := by
  have hb : Blk w' G 53 (rowV n V) := h.blk.chg hc (h.apart ha)
  have hgG : g ≠ G := by
    rcases hat with hat | hat
    · rintro rfl; exact h.apart ha hat
    · have := h.blk.lt; omega
  have hgn : w.heap.size ≤ g := by
    rcases hat with hat | hat
    · exact h.new a ha g hat
    · have := h.ext.size; omega
  have hgo : ∀ v, v < n → v ≠ a → (V v).ownBlock ≠ some g := fun v hv hva hvg => by
    rcases hat with hat | hat
    · exact h.two a v ha hv (Ne.symm hva) g hat hvg
    · have := own_lt (h.row v hv) hvg; omega
  refine ⟨by rw [hb.cell, rowV_get ha], hb.frozen a, ⟨by rw [← rowV_set ha]; exact hb.set_ a _, fun v hv => ?_, fun v hv k hk => ?_, fun u v hu hv huv k hk => ?_, ?_, h.G⟩⟩
  · by_cases e : v = a
    · subst e
      simp only [upd, updV, if_pos]
      have : intsV (R v ++ [x]) = intsV (R v) ++ [.int .i64 x] := by simp [intsV]
      rw [this, List.length_append]
      exact own_far ho (p := ⟨G, v, none⟩) (by simpa [Value.ownBlock] using hgG) _
    · simp only [upd, updV, if_neg e]
      refine own_far (own_chg (h.row v hv) hc (fun k hk hk2 => h.two v a hv ha e k hk hk2)) (p := ⟨G, a, none⟩) ?_ _
      exact h.apart hv
  · by_cases e : v = a
    · subst e; simp only [updV, if_pos] at hk; simp [Value.ownBlock] at hk; subst hk; exact hgn
    · simp only [updV, if_neg e] at hk; exact h.new v hv k hk
  · by_cases e : u = a
    · subst e
      simp only [updV, if_pos] at hk
      simp [Value.ownBlock] at hk; subst hk
      simp only [updV, if_neg (Ne.symm huv)]
      exact hgo v hv (Ne.symm huv)
    · simp only [updV, if_neg e] at hk
      by_cases e2 : v = a
      · subst e2
        simp only [updV, if_pos]
        intro h2
        simp [Value.ownBlock] at h2; subst h2
        exact hgo u hu e hk
      · simp only [updV, if_neg e2]
        exact h.two u v hu hv huv k hk
  · exact (((Chg.of_below h.ext).trans hc (fun k _ hk => h.new a ha k hk)).setCell (p := ⟨G, a, none⟩) (fun _ => h.G) _).below (Nat.le_refl _) (fun _ _ h => h)
/-- A row is sorted. -/
theorem BsV.sort {w w2 w' : World} {n G a : Nat} {R : Nat → List Int} {V : Nat → Value} (h : BsV w n G R V w2) (ha : a < n)
    (ho : w'.ownsRow 0 3 1 (V a) (R a).length (intsV (sorted (R a)))) (hc : Chg (fun k => (V a).ownBlock = some k) w2 w') : BsV w n G (upd R a (sorted (R a))) V w' := by
  refine ⟨h.blk.chg hc (h.apart ha), fun v hv => ?_, h.new, h.two, ((Chg.of_below h.ext).trans hc (fun k _ hk => h.new a ha k hk)).below (Nat.le_refl _) (fun _ _ h => h), h.G⟩
  by_cases e : v = a
  · subst e; simp only [upd, if_pos]; rw [sorted_length]; exact ho
  · simp only [upd, if_neg e]
    exact own_chg (h.row v hv) hc (fun k hk hk2 => h.two v a hv ha e k hk hk2)
/-- What Beside leaves. -/
def BesPost (w : World) (n : Nat) (l : List AK.Ed) (e : Ending) (w' : World) : Prop := ∃ G c N, e = .returned (.slice (some ⟨G, 0, none⟩) n c) ∧ BesAt w' G n N ∧ BesOf n l N ∧ (∀ v, v < n → (N v).Pairwise (fun x y => x ≤ y)) ∧ Ext w w'
/-- Where they lie: from a block on. -/
def BesIn (B : Nat) (w : World) (G n : Nat) : Prop := B ≤ G ∧ ∀ v, v < n → ∀ A m c, w.cell? ⟨G, v, none⟩ = some (.slice A m c) → ∀ ad, A = some ad → B ≤ ad.block
theorem BsV.inn {w wr : World} {n G : Nat} {R : Nat → List Int} {V : Nat → Value} (h : BsV w n G R V wr) : BesIn w.heap.size wr G n :=
  ⟨h.G, fun v hv A m c hc ad hA => by
    subst hA
    have h1 := (h.cell hv).1
    rw [hc] at h1
    injection h1 with h1
    rcases (h.row v hv).2 with ⟨h2, _⟩ | ⟨g, cap, cur, h2, _⟩
    · rw [← h1] at h2; simp at h2
    · rw [← h1] at h2
      simp only [Value.slice.injEq, Option.some.injEq] at h2
      have h3 := h.new v hv g (by rw [← h1, h2.1]; rfl)
      rw [h2.1]; exact h3⟩
/-- What Beside leaves, and where. -/
def BesPost2 (w : World) (n : Nat) (l : List AK.Ed) (e : Ending) (w' : World) : Prop := ∃ G c N, e = .returned (.slice (some ⟨G, 0, none⟩) n c) ∧ BesAt w' G n N ∧ BesOf n l N ∧ (∀ v, v < n → (N v).Pairwise (fun x y => x ≤ y)) ∧ Ext w w' ∧ BesIn w.heap.size w' G n
theorem BsV.done {w wr : World} {n G : Nat} {l : List AK.Ed} {R : Nat → List Int} {V : Nat → Value} (h : BsV w n G R V wr) (hR : ∀ v, v < n → R v = sorted (nbs l v)) (hf : Fine n l) : ∃ N, BesAt wr G n N ∧ BesOf n l N ∧ ∀ v, v < n → (N v).Pairwise (fun x y => x ≤ y) := by
  have hpos : ∀ v, v < n → ∀ y ∈ R v, ∃ z : Nat, y = (z : Int) ∧ z < n := fun v hv y hy => by
    rw [hR v hv, sorted_mem, nbs_mem] at hy
    rcases hy with hy | hy
    · obtain ⟨i, hi⟩ := List.getElem?_of_mem hy
      obtain ⟨h1, h2, h3⟩ := hf.2 i _ hi
      obtain ⟨z, hz⟩ := Int.eq_ofNat_of_zero_le (show 0 ≤ y by simp only at h1 h2; omega)
      exact ⟨z, hz, by simp only at h3; omega⟩
    · obtain ⟨i, hi⟩ := List.getElem?_of_mem hy
      obtain ⟨h1, h2, h3⟩ := hf.2 i _ hi
      obtain ⟨z, hz⟩ := Int.eq_ofNat_of_zero_le h1
      exact ⟨z, hz, by simp only at h2 h3 hz; omega⟩
  have hmap : ∀ v, v < n → ((R v).map Int.toNat).map (fun (x : Nat) => (x : Int)) = R v := fun v hv => by
    rw [List.map_map]
    conv => rhs; rw [← List.map_id (R v)]
    refine List.map_congr_left fun y hy => ?_
    obtain ⟨z, rfl, _⟩ := hpos v hv y hy
    simp
  refine ⟨fun v => (R v).map Int.toNat, ⟨h.blk.lt, fun v hv => ?_⟩, fun v hv x => ?_, fun v hv => ?_⟩
  · obtain ⟨A, c, hV, _⟩ := own_slice3 (h.row v hv)
    have hr := h.row v hv
    rw [hV] at hr
    refine ⟨A, c, by rw [(h.cell hv).1, hV]; simp, ?_, ?_⟩
    · rw [hmap v hv]
      exact (IntsAt.of_own hr).1
    · rw [List.length_map, hR v hv, sorted_length]
      have := nbs_len l v
      have := hf.1
      omega
  · constructor
    · intro hx
      obtain ⟨y, hy, rfl⟩ := List.mem_map.1 hx
      obtain ⟨z, rfl, hz⟩ := hpos v hv y hy
      rw [hR v hv, sorted_mem, nbs_mem] at hy
      exact ⟨by simpa using hz, by simpa [PD.adj] using hy⟩
    · rintro ⟨hx, hadj⟩
      refine List.mem_map.2 ⟨(x : Int), ?_, by simp⟩
      rw [hR v hv, sorted_mem, nbs_mem]
      exact hadj
  · have hs := sorted_rises (nbs l v)
    rw [← hR v hv] at hs
    rw [List.pairwise_map]
    refine List.Pairwise.imp_of_mem ?_ hs
    intro x y hx hy hxy
    obtain ⟨a, rfl, _⟩ := hpos v hv x hx
    obtain ⟨b, rfl, _⟩ := hpos v hv y hy
    simpa using hxy
end Go.Proofs.YtakjakglkfhaaaaDoor
