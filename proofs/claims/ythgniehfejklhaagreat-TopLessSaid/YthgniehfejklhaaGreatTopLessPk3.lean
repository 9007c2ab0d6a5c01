/-
  Rows of the nodes beside each node, in memory. No conditions.
  The walker of package bridge in memory. No conditions.
  The drawn regions of the walker's walk, each by itself. Conditions: the walker lies in memory as 'WkAt' says.
-/
import Derived.Test.YthgniehfejklhaaGreatBs13
import Derived.Test.YthgniehfejklhaaGreatTopLessPk2
import Derived.Deep.RegionLaw
import Derived.Test.YthgniehfejklhaaGreatBs5
import Derived.RegionTactic
import Derived.BigRegion
import Derived.BigQuiet
import Derived.StillTailTactics
namespace Go.Proofs.YthgniehfejklhaaGreat
open Go Go.RowKit
set_option linter.unusedVariables false

theorem infoR : (Tryz.prog.info? 23).map (fun i => (i.zero, i.size, i.bytes)) = some (some (.slice none 0 0), 1, 24) := by kernel_rfl
theorem run_rows (n : Nat) (h : n ≤ 1000) : ∃ cs : Array Value, cs.toList = List.replicate n (Value.slice none 0 0) ∧ ∀ w : World,
    (Instr.makeSlice 120 (.int .i64 (n : Int)) (.int .i64 (n : Int))).run Tryz.prog w = .ok (.slice (some ⟨w.heap.size, 0, none⟩) n n) (w.alloc (.cells cs 23)) := by
  obtain ⟨i, hi, hz0, hz1, hz2⟩ := info_parts infoR
  refine ⟨madeCells (Value.slice none 0 0).cells (n * i.size), ?_, fun w => ?_⟩
  · rw [hz1]; show (madeCells #[Value.slice none 0 0] (n * 1)).toList = _; rw [toList_madeCells_one]; simp
  · have := run_make w 120 23 i _ Tryz.underlying120 hi hz0 .i64 .i64 (n : Int) (n : Int) (by omega) (Int.le_refl _) (by rw [hz2]; omega) (by omega)
    simpa using this
/-- Those beside a node, as the edges tell them. -/
def nbs (l : List AK.Ed) (v : Nat) : List Int := l.flatMap fun x => (if x.1 = (v : Int) then [x.2] else []) ++ (if x.2 = (v : Int) then [x.1] else [])
theorem nbs_snoc (l : List AK.Ed) (x : AK.Ed) (v : Nat) : nbs (l ++ [x]) v = nbs l v ++ ((if x.1 = (v : Int) then [x.2] else []) ++ (if x.2 = (v : Int) then [x.1] else [])) := by simp [nbs]
theorem nbs_mem {l : List AK.Ed} {v : Nat} {y : Int} : y ∈ nbs l v ↔ ((v : Int), y) ∈ l ∨ (y, (v : Int)) ∈ l := by
  simp only [nbs, List.mem_flatMap, List.mem_append]
  constructor
  · rintro ⟨⟨a, b⟩, hx, h | h⟩
    · by_cases e : a = (v : Int)
      · rw [if_pos e] at h; simp at h; subst h; subst e; exact .inl hx
      · rw [if_neg e] at h; simp at h
    · by_cases e : b = (v : Int)
      · rw [if_pos e] at h; simp at h; subst h; subst e; exact .inr hx
      · rw [if_neg e] at h; simp at h
  · rintro (h | h)
    · exact ⟨_, h, .inl (by simp)⟩
    · exact ⟨_, h, .inr (by simp)⟩
theorem nbs_len (l : List AK.Ed) (v : Nat) : (nbs l v).length ≤ 2 * l.length := by
  induction l with
  | nil => simp [nbs]
  | cons x l ih =>
    have e : nbs (x :: l) v = ((if x.1 = (v : Int) then [x.2] else []) ++ (if x.2 = (v : Int) then [x.1] else [])) ++ nbs l v := by simp [nbs]
    rw [e, List.length_append, List.length_append, List.length_cons]
    split <;> split <;> simp <;> omega
def upd (R : Nat → List Int) (a : Nat) (r : List Int) : Nat → List Int := fun v => if v = a then r else R v
def updVB (V : Nat → Value) (a : Nat) (x : Value) : Nat → Value := fun v => if v = a then x else V v
def rowV (n : Nat) (V : Nat → Value) : Array Value := ((List.range n).map V).toArray
theorem rowV_get {n : Nat} {V : Nat → Value} {v : Nat} (h : v < n) : (rowV n V)[v]? = some (V v) := by simp [rowV, h]
theorem rowV_set {n : Nat} {V : Nat → Value} {a : Nat} {x : Value} (h : a < n) : (rowV n V).setIfInBounds a x = rowV n (updVB V a x) := by
  apply Array.ext_getElem?
  intro j
  rw [Array.getElem?_setIfInBounds]
  by_cases e : a = j
  · subst e; rw [if_pos rfl, if_pos (by simp [rowV, h]), rowV_get h]; simp [updVB]
  · rw [if_neg e]
    by_cases hj : j < n
    · rw [rowV_get hj, rowV_get hj]; simp [updVB, show j ≠ a from fun h => e h.symm]
    · rw [Array.getElem?_eq_none (by simp [rowV]; omega), Array.getElem?_eq_none (by simp [rowV]; omega)]
/-- Rows as they lie. -/
structure BsV (w : World) (n G : Nat) (R : Nat → List Int) (V : Nat → Value) (wr : World) : Prop where
  blk : Blk wr G 23 (rowV n V)
  row : ∀ v, v < n → wr.ownsRow 0 3 1 (V v) (R v).length (intsV (R v))
  new : ∀ v, v < n → ∀ k, (V v).ownBlock = some k → w.heap.size ≤ k
  two : ∀ u v, u < n → v < n → u ≠ v → ∀ k, (V u).ownBlock = some k → (V v).ownBlock ≠ some k
  ext : Ext w wr
  G : w.heap.size ≤ G
theorem BsV.moved {w wr w' : World} {n G : Nat} {R : Nat → List Int} {V : Nat → Value} (h : BsV w n G R V wr) (hx : Ext wr w') : BsV w n G R V w' :=
  ⟨h.blk.chg (Chg.of_below hx) (by have := h.blk.lt; omega), fun v hv => own_chg (h.row v hv) (Chg.of_below hx) (fun k hk => by have := own_lt (h.row v hv) hk; omega), h.new, h.two, Ext.trans h.ext hx, h.G⟩
theorem BsV.cell {w wr : World} {n G : Nat} {R : Nat → List Int} {V : Nat → Value} (h : BsV w n G R V wr) {a : Nat} (ha : a < n) : wr.cell? ⟨G, a, none⟩ = some (V a) ∧ wr.frozen? ⟨G, a, none⟩ = false :=
  ⟨by rw [h.blk.cell, rowV_get ha], h.blk.frozen a⟩
theorem BsV.apart {w wr : World} {n G : Nat} {R : Nat → List Int} {V : Nat → Value} (h : BsV w n G R V wr) {a : Nat} (ha : a < n) : (V a).ownBlock ≠ some G := own_ne (h.row a ha) h.blk (by decide)
/-- One node more beside another. -/
theorem BsV.push {w w2 w' : World} {n G a g c : Nat} {R : Nat → List Int} {V : Nat → Value} {x : Int} (h : BsV w n G R V w2) (ha : a < n)
    (ho : w'.ownsRow 0 3 1 (.slice (some ⟨g, 0, none⟩) ((R a).length + 1) c) ((R a).length + 1) (intsV (R a) ++ [.int .i64 x])) (hc : Chg (fun k => (V a).ownBlock = some k) w2 w') (hat : (V a).ownBlock = some g ∨ g = w2.heap.size) :
    w'.cell? ⟨G, a, none⟩ = some (V a) ∧ w'.frozen? ⟨G, a, none⟩ = false ∧ Hid (BsV w n G (upd R a (R a ++ [x])) (updVB V a (.slice (some ⟨g, 0, none⟩) ((R a).length + 1) c)) (w'.setCell ⟨G, a, none⟩ (.slice (some ⟨g, 0, none⟩) ((R a).length + 1) c))) := by
  have hb : Blk w' G 23 (rowV n V) := h.blk.chg hc (h.apart ha)
  have hgG : g ≠ G := by
    rcases hat with hat | hat
    · rintro rfl; exact h.apart ha hat
    · have := h.blk.lt; omega
  have hgn : w.heap.size ≤ g := by
    rcases hat with hat | hat
    · exact h.new a ha g hat
    · have := h.ext.size; omega
  have hgo : ∀ v, v < n → v ≠ a → (V v).ownBlock ≠ some g := fun v hv hva hvg => by
    rcases hat with hat | hat
    · exact h.two a v ha hv (Ne.symm hva) g hat hvg
    · have := own_lt (h.row v hv) hvg; omega
  refine ⟨by rw [hb.cell, rowV_get ha], hb.frozen a, ⟨by rw [← rowV_set ha]; exact hb.set_ a _, fun v hv => ?_, fun v hv k hk => ?_, fun u v hu hv huv k hk => ?_, ?_, h.G⟩⟩
  · by_cases e : v = a
    · subst e
      simp only [upd, updVB, if_pos]
      have : intsV (R v ++ [x]) = intsV (R v) ++ [.int .i64 x] := by simp [intsV]
      rw [this, List.length_append]
      exact own_far ho (p := ⟨G, v, none⟩) (by simpa [Value.ownBlock] using hgG) _
    · simp only [upd, updVB, if_neg e]
      refine own_far (own_chg (h.row v hv) hc (fun k hk hk2 => h.two v a hv ha e k hk hk2)) (p := ⟨G, a, none⟩) ?_ _
      exact h.apart hv
  · by_cases e : v = a
    · subst e; simp only [updVB, if_pos] at hk; simp [Value.ownBlock] at hk; subst hk; exact hgn
    · simp only [updVB, if_neg e] at hk; exact h.new v hv k hk
  · by_cases e : u = a
    · subst e
      simp only [updVB, if_pos] at hk
      simp [Value.ownBlock] at hk; subst hk
      simp only [updVB, if_neg (Ne.symm huv)]
      exact hgo v hv (Ne.symm huv)
    · simp only [updVB, if_neg e] at hk
      by_cases e2 : v = a
      · subst e2
        simp only [updVB, if_pos]
        intro h2
        simp [Value.ownBlock] at h2; subst h2
        exact hgo u hu e hk
      · simp only [updVB, if_neg e2]
        exact h.two u v hu hv huv k hk
  · exact (((Chg.of_below h.ext).trans hc (fun k _ hk => h.new a ha k hk)).setCell (p := ⟨G, a, none⟩) (fun _ => h.G) _).below (Nat.le_refl _) (fun _ _ h => h)
/-- A row is sorted. -/
theorem BsV.sort {w w2 w' : World} {n G a : Nat} {R : Nat → List Int} {V : Nat → Value} (h : BsV w n G R V w2) (ha : a < n)
    (ho : w'.ownsRow 0 3 1 (V a) (R a).length (intsV (sorted (R a)))) (hc : Chg (fun k => (V a).ownBlock = some k) w2 w') : BsV w n G (upd R a (sorted (R a))) V w' := by
  refine ⟨h.blk.chg hc (h.apart ha), fun v hv => ?_, h.new, h.two, ((Chg.of_below h.ext).trans hc (fun k _ hk => h.new a ha k hk)).below (Nat.le_refl _) (fun _ _ h => h), h.G⟩
  by_cases e : v = a
  · subst e; simp only [upd, if_pos]; rw [sorted_length]; exact ho
  · simp only [upd, if_neg e]
    exact own_chg (h.row v hv) hc (fun k hk hk2 => h.two v a hv ha e k hk hk2)
/-- What Beside leaves. -/
def BesPost (w : World) (n : Nat) (l : List AK.Ed) (e : Ending) (w' : World) : Prop := ∃ G c N, e = .returned (.slice (some ⟨G, 0, none⟩) n c) ∧ BesAt w' G n N ∧ BesOf n l N ∧ (∀ v, v < n → (N v).Pairwise (fun x y => x ≤ y)) ∧ Ext w w'
/-- Where they lie: from a block on. -/
def BesIn (B : Nat) (w : World) (G n : Nat) : Prop := B ≤ G ∧ ∀ v, v < n → ∀ A m c, w.cell? ⟨G, v, none⟩ = some (.slice A m c) → ∀ ad, A = some ad → B ≤ ad.block
theorem BsV.inn {w wr : World} {n G : Nat} {R : Nat → List Int} {V : Nat → Value} (h : BsV w n G R V wr) : BesIn w.heap.size wr G n :=
  ⟨h.G, fun v hv A m c hc ad hA => by
    subst hA
    have h1 := (h.cell hv).1
    rw [hc] at h1
    injection h1 with h1
    rcases (h.row v hv).2 with ⟨h2, _⟩ | ⟨g, cap, cur, h2, _⟩
    · rw [← h1] at h2; simp at h2
    · rw [← h1] at h2
      simp only [Value.slice.injEq, Option.some.injEq] at h2
      have h3 := h.new v hv g (by rw [← h1, h2.1]; rfl)
      rw [h2.1]; exact h3⟩
/-- What Beside leaves, and where. -/
def BesPost2 (w : World) (n : Nat) (l : List AK.Ed) (e : Ending) (w' : World) : Prop := ∃ G c N, e = .returned (.slice (some ⟨G, 0, none⟩) n c) ∧ BesAt w' G n N ∧ BesOf n l N ∧ (∀ v, v < n → (N v).Pairwise (fun x y => x ≤ y)) ∧ Ext w w' ∧ BesIn w.heap.size w' G n
theorem BsV.done {w wr : World} {n G : Nat} {l : List AK.Ed} {R : Nat → List Int} {V : Nat → Value} (h : BsV w n G R V wr) (hR : ∀ v, v < n → R v = sorted (nbs l v)) (hf : Fine n l) : ∃ N, BesAt wr G n N ∧ BesOf n l N ∧ ∀ v, v < n → (N v).Pairwise (fun x y => x ≤ y) := by
  have hpos : ∀ v, v < n → ∀ y ∈ R v, ∃ z : Nat, y = (z : Int) ∧ z < n := fun v hv y hy => by
    rw [hR v hv, sorted_mem, nbs_mem] at hy
    rcases hy with hy | hy
    · obtain ⟨i, hi⟩ := List.getElem?_of_mem hy
      obtain ⟨h1, h2, h3⟩ := hf.2 i _ hi
      obtain ⟨z, hz⟩ := Int.eq_ofNat_of_zero_le (show 0 ≤ y by simp only at h1 h2; omega)
      exact ⟨z, hz, by simp only at h3; omega⟩
    · obtain ⟨i, hi⟩ := List.getElem?_of_mem hy
      obtain ⟨h1, h2, h3⟩ := hf.2 i _ hi
      obtain ⟨z, hz⟩ := Int.eq_ofNat_of_zero_le h1
      exact ⟨z, hz, by simp only at h2 h3 hz; omega⟩
  have hmap : ∀ v, v < n → ((R v).map Int.toNat).map (fun (x : Nat) => (x : Int)) = R v := fun v hv => by
    rw [List.map_map]
    conv => rhs; rw [← List.map_id (R v)]
    refine List.map_congr_left fun y hy => ?_
    obtain ⟨z, rfl, _⟩ := hpos v hv y hy
    simp
  refine ⟨fun v => (R v).map Int.toNat, ⟨h.blk.lt, fun v hv => ?_⟩, fun v hv x => ?_, fun v hv => ?_⟩
  · obtain ⟨A, c, hV, _⟩ := own_slice3 (h.row v hv)
    have hr := h.row v hv
    rw [hV] at hr
    refine ⟨A, c, by rw [(h.cell hv).1, hV]; simp, ?_, ?_⟩
    · rw [hmap v hv]
      exact (IntsAt.of_own hr).1
    · rw [List.length_map, hR v hv, sorted_length]
      have := nbs_len l v
      have := hf.1
      omega
  · constructor
    · intro hx
      obtain ⟨y, hy, rfl⟩ := List.mem_map.1 hx
      obtain ⟨z, rfl, hz⟩ := hpos v hv y hy
      rw [hR v hv, sorted_mem, nbs_mem] at hy
      exact ⟨by simpa using hz, by simpa [PD.adj] using hy⟩
    · rintro ⟨hx, hadj⟩
      refine List.mem_map.2 ⟨(x : Int), ?_, by simp⟩
      rw [hR v hv, sorted_mem, nbs_mem]
      exact hadj
  · have hs := sorted_rises (nbs l v)
    rw [← hR v hv] at hs
    rw [List.pairwise_map]
    refine List.Pairwise.imp_of_mem ?_ hs
    intro x y hx hy hxy
    obtain ⟨a, rfl, _⟩ := hpos v hv x hx
    obtain ⟨b, rfl, _⟩ := hpos v hv y hy
    simpa using hxy
end Go.Proofs.YthgniehfejklhaaGreat
namespace Go.Proofs.YthgniehfejklhaaGreat
open Go Go.RowKit
set_option linter.unusedVariables false

/-- Where the walker lies: its block, the blocks of its rows. -/
structure Wkr where
  W : Nat
  gw : Nat
  gl : Nat
  gp : Nat
  vB : Value
/-- The blocks of its rows. -/
def Wkr.S (k : Wkr) (j : Nat) : Prop := j = k.gw ∨ j = k.gl ∨ j = k.gp
structure WkAt (w0 : World) (n : Nat) (k : Wkr) (vE vJ : Value) (s : DF.Wk) (wr : World) : Prop where
  blk : Blk wr k.W 122 #[k.vB, .slice (some ⟨k.gw, 0, none⟩) n n, .slice (some ⟨k.gl, 0, none⟩) n n, .slice (some ⟨k.gp, 0, none⟩) n n, .int .i64 (s.tm : Int), vE, vJ]
  wh : wr.ownsRow 0 3 1 (.slice (some ⟨k.gw, 0, none⟩) n n) n (intsV s.wh)
  lo : wr.ownsRow 0 3 1 (.slice (some ⟨k.gl, 0, none⟩) n n) n (intsV s.lo)
  pa : wr.ownsRow 0 3 1 (.slice (some ⟨k.gp, 0, none⟩) n n) n (intsV s.pa)
  ed : DRow wr vE s.ed
  jo : wr.ownsRow 0 3 1 vJ s.jo.length (natsV s.jo)
  d1 : k.gw ≠ k.gl
  d2 : k.gw ≠ k.gp
  d3 : k.gl ≠ k.gp
  j1 : vJ.ownBlock ≠ some k.gw
  j2 : vJ.ownBlock ≠ some k.gl
  j3 : vJ.ownBlock ≠ some k.gp
  nE : ∀ x, vE.ownBlock = some x → w0.heap.size ≤ x
  nJ : ∀ x, vJ.ownBlock = some x → w0.heap.size ≤ x
  nW : w0.heap.size ≤ k.W
  chg : Chg k.S w0 wr
section
variable {w0 wr w' : World} {n : Nat} {k : Wkr} {vE vJ : Value} {s : DF.Wk}
theorem slice_own (g n c : Nat) : (Value.slice (some ⟨g, 0, none⟩) n c).ownBlock = some g := rfl
theorem slice_ne {g h n c : Nat} (e : g ≠ h) : (Value.slice (some ⟨g, 0, none⟩) n c).ownBlock ≠ some h := by
  rw [slice_own]; intro q; injection q with q; exact e q
theorem WkAt.w1 (h : WkAt w0 n k vE vJ s wr) : k.W ≠ k.gw := fun e => own_ne h.wh h.blk (by decide) (by rw [slice_own, e])
theorem WkAt.w2 (h : WkAt w0 n k vE vJ s wr) : k.W ≠ k.gl := fun e => own_ne h.lo h.blk (by decide) (by rw [slice_own, e])
theorem WkAt.w3 (h : WkAt w0 n k vE vJ s wr) : k.W ≠ k.gp := fun e => own_ne h.pa h.blk (by decide) (by rw [slice_own, e])
theorem WkAt.wJ (h : WkAt w0 n k vE vJ s wr) : vJ.ownBlock ≠ some k.W := own_ne h.jo h.blk (by decide)
theorem WkAt.wE (h : WkAt w0 n k vE vJ s wr) : vE.ownBlock ≠ some k.W := own_ne h.ed h.blk (by decide)
theorem WkAt.e1 (h : WkAt w0 n k vE vJ s wr) : vE.ownBlock ≠ some k.gw := fun e => own_neq h.ed h.wh (by decide) e (slice_own _ _ _)
theorem WkAt.e2 (h : WkAt w0 n k vE vJ s wr) : vE.ownBlock ≠ some k.gl := fun e => own_neq h.ed h.lo (by decide) e (slice_own _ _ _)
theorem WkAt.e3 (h : WkAt w0 n k vE vJ s wr) : vE.ownBlock ≠ some k.gp := fun e => own_neq h.ed h.pa (by decide) e (slice_own _ _ _)
theorem WkAt.eJ (h : WkAt w0 n k vE vJ s wr) {x : Nat} (e : vE.ownBlock = some x) : vJ.ownBlock ≠ some x := own_neq h.ed h.jo (by decide) e
theorem WkAt.moved (h : WkAt w0 n k vE vJ s wr) (hx : Ext wr w') : WkAt w0 n k vE vJ s w' := by
  have key : ∀ {e : TypeId} {size : Nat} {v : Value} {m : Nat} {xs : List Value}, wr.ownsRow 0 e size v m xs → w'.ownsRow 0 e size v m xs := fun h1 => own_chg h1 (Chg.of_below hx) (fun k hk => by have := own_lt h1 hk; omega)
  exact { h with blk := h.blk.chg (Chg.of_below hx) (by have := h.blk.lt; omega), wh := key h.wh, lo := key h.lo, pa := key h.pa, ed := key h.ed, jo := key h.jo, chg := h.chg.trans (Chg.of_below hx) (fun i hi hS => absurd hi (by have := h.chg.size; omega)) }
theorem WkAt.drew (h : WkAt w0 n k vE vJ s wr) : WkAt w0 n k vE vJ s wr.drew := h.moved (Ext.drew _)
theorem WkAt.drewN (h : WkAt w0 n k vE vJ s wr) (m : Nat) : WkAt w0 n k vE vJ s (wr.drewN m) := h.moved (Ext.drewN _ _)
theorem WkAt.setChg (h : WkAt w0 n k vE vJ s wr) {g : Nat} (hg : g < w0.heap.size → k.S g) (i : Nat) (v : Value) : Chg k.S w0 (wr.setCell ⟨g, i, none⟩ v) :=
  h.chg.setCell (p := ⟨g, i, none⟩) hg v
theorem intsV_set (d : List Int) (i : Nat) (x : Int) : intsV (d.set i x) = (intsV d).set i (.int .i64 x) := by rw [intsV, intsV, List.map_set]
theorem WkAt.setTm (h : WkAt w0 n k vE vJ s wr) (x : Nat) : WkAt w0 n k vE vJ { s with tm := x } (wr.setCell ⟨k.W, 4, none⟩ (.int .i64 (x : Int))) :=
  { h with
    blk := h.blk.set_ 4 _
    wh := own_far h.wh (p := ⟨k.W, 4, none⟩) (slice_ne (Ne.symm h.w1)) _
    lo := own_far h.lo (p := ⟨k.W, 4, none⟩) (slice_ne (Ne.symm h.w2)) _
    pa := own_far h.pa (p := ⟨k.W, 4, none⟩) (slice_ne (Ne.symm h.w3)) _
    ed := own_far h.ed (p := ⟨k.W, 4, none⟩) h.wE _
    jo := own_far h.jo (p := ⟨k.W, 4, none⟩) h.wJ _
    chg := h.setChg (fun q => absurd q (by have := h.nW; omega)) _ _ }
theorem WkAt.setW (h : WkAt w0 n k vE vJ s wr) (a : Nat) (x : Int) : WkAt w0 n k vE vJ { s with wh := s.wh.set a x } (wr.setCell ⟨k.gw, a, none⟩ (.int .i64 x)) :=
  { h with
    blk := h.blk.far (p := ⟨k.gw, a, none⟩) h.w1 _
    wh := by rw [intsV_set]; exact (h.wh.stored a _).1
    lo := own_far h.lo (p := ⟨k.gw, a, none⟩) (slice_ne (Ne.symm h.d1)) _
    pa := own_far h.pa (p := ⟨k.gw, a, none⟩) (slice_ne (Ne.symm h.d2)) _
    ed := own_far h.ed (p := ⟨k.gw, a, none⟩) h.e1 _
    jo := own_far h.jo (p := ⟨k.gw, a, none⟩) h.j1 _
    chg := h.setChg (fun _ => .inl rfl) _ _ }
theorem WkAt.setL (h : WkAt w0 n k vE vJ s wr) (a : Nat) (x : Int) : WkAt w0 n k vE vJ { s with lo := s.lo.set a x } (wr.setCell ⟨k.gl, a, none⟩ (.int .i64 x)) :=
  { h with
    blk := h.blk.far (p := ⟨k.gl, a, none⟩) h.w2 _
    lo := by rw [intsV_set]; exact (h.lo.stored a _).1
    wh := own_far h.wh (p := ⟨k.gl, a, none⟩) (slice_ne h.d1) _
    pa := own_far h.pa (p := ⟨k.gl, a, none⟩) (slice_ne (Ne.symm h.d3)) _
    ed := own_far h.ed (p := ⟨k.gl, a, none⟩) h.e2 _
    jo := own_far h.jo (p := ⟨k.gl, a, none⟩) h.j2 _
    chg := h.setChg (fun _ => .inr (.inl rfl)) _ _ }
theorem WkAt.setP (h : WkAt w0 n k vE vJ s wr) (a : Nat) (x : Int) : WkAt w0 n k vE vJ { s with pa := s.pa.set a x } (wr.setCell ⟨k.gp, a, none⟩ (.int .i64 x)) :=
  { h with
    blk := h.blk.far (p := ⟨k.gp, a, none⟩) h.w3 _
    pa := by rw [intsV_set]; exact (h.pa.stored a _).1
    wh := own_far h.wh (p := ⟨k.gp, a, none⟩) (slice_ne h.d2) _
    lo := own_far h.lo (p := ⟨k.gp, a, none⟩) (slice_ne h.d3) _
    ed := own_far h.ed (p := ⟨k.gp, a, none⟩) h.e3 _
    jo := own_far h.jo (p := ⟨k.gp, a, none⟩) h.j3 _
    chg := h.setChg (fun _ => .inr (.inr rfl)) _ _ }
/-- An edge more. -/
theorem WkAt.pushE (h : WkAt w0 n k vE vJ s wr) {g c : Nat} {x : AK.Ed} (ho : w'.ownsRow 0 49 2 (.slice (some ⟨g, 0, none⟩) (s.ed.length + 1) c) (s.ed.length + 1) (rowsOf edC s.ed ++ edC x)) (hc : Chg (fun j => vE.ownBlock = some j) wr w') (hat : vE.ownBlock = some g ∨ g = wr.heap.size) :
    Blk w' k.W 122 #[k.vB, .slice (some ⟨k.gw, 0, none⟩) n n, .slice (some ⟨k.gl, 0, none⟩) n n, .slice (some ⟨k.gp, 0, none⟩) n n, .int .i64 (s.tm : Int), vE, vJ] ∧ WkAt w0 n k (.slice (some ⟨g, 0, none⟩) (s.ed.length + 1) c) vJ { s with ed := s.ed ++ [x] } (w'.setCell ⟨k.W, 5, none⟩ (.slice (some ⟨g, 0, none⟩) (s.ed.length + 1) c)) := by
  have hb := h.blk.chg hc h.wE
  have hgW : g ≠ k.W := by
    rcases hat with e | e
    · rintro rfl; exact h.wE e
    · have := h.blk.lt; omega
  have key : ∀ {e : TypeId} {size : Nat} {v : Value} {m : Nat} {xs : List Value}, wr.ownsRow 0 e size v m xs → (∀ j, v.ownBlock = some j → vE.ownBlock ≠ some j) → v.ownBlock ≠ some k.W → (w'.setCell ⟨k.W, 5, none⟩ (.slice (some ⟨g, 0, none⟩) (s.ed.length + 1) c)).ownsRow 0 e size v m xs := fun h1 h2 h3 => own_far (own_chg h1 hc h2) (p := ⟨k.W, 5, none⟩) h3 _
  refine ⟨hb, { h with blk := hb.set_ 5 _, wh := key h.wh (fun j hj q => ?_) (slice_ne (Ne.symm h.w1)), lo := key h.lo (fun j hj q => ?_) (slice_ne (Ne.symm h.w2)), pa := key h.pa (fun j hj q => ?_) (slice_ne (Ne.symm h.w3)), ed := ?_, jo := key h.jo (fun j hj q => h.eJ q hj) h.wJ, nE := fun y hy => ?_, chg := ?_ }⟩
  · rw [slice_own] at hj; injection hj with hj; subst hj; exact h.e1 q
  · rw [slice_own] at hj; injection hj with hj; subst hj; exact h.e2 q
  · rw [slice_own] at hj; injection hj with hj; subst hj; exact h.e3 q
  · unfold DRow
    rw [rowsOf_app, List.length_append, List.length_singleton]
    have : rowsOf edC [x] = edC x := by simp [rowsOf]
    rw [this]
    exact own_far ho (p := ⟨k.W, 5, none⟩) (slice_ne hgW) _
  · rw [slice_own] at hy; injection hy with hy; subst hy
    rcases hat with e | e
    · exact h.nE g e
    · have := h.chg.size; omega
  · exact (h.chg.trans hc (fun i hi hS => absurd (h.nE i hS) (by omega))).setCell (p := ⟨k.W, 5, none⟩) (fun q => absurd q (by have := h.nW; simp only; omega)) _
/-- A joint more. -/
theorem WkAt.pushJ (h : WkAt w0 n k vE vJ s wr) {g c a : Nat} (ho : w'.ownsRow 0 3 1 (.slice (some ⟨g, 0, none⟩) (s.jo.length + 1) c) (s.jo.length + 1) (natsV s.jo ++ [.int .i64 (a : Int)])) (hc : Chg (fun j => vJ.ownBlock = some j) wr w') (hat : vJ.ownBlock = some g ∨ g = wr.heap.size) :
    Blk w' k.W 122 #[k.vB, .slice (some ⟨k.gw, 0, none⟩) n n, .slice (some ⟨k.gl, 0, none⟩) n n, .slice (some ⟨k.gp, 0, none⟩) n n, .int .i64 (s.tm : Int), vE, vJ] ∧ WkAt w0 n k vE (.slice (some ⟨g, 0, none⟩) (s.jo.length + 1) c) { s with jo := s.jo ++ [a] } (w'.setCell ⟨k.W, 6, none⟩ (.slice (some ⟨g, 0, none⟩) (s.jo.length + 1) c)) := by
  have hb := h.blk.chg hc h.wJ
  have hgW : g ≠ k.W := by
    rcases hat with e | e
    · rintro rfl; exact h.wJ e
    · have := h.blk.lt; omega
  have key : ∀ {e : TypeId} {size : Nat} {v : Value} {m : Nat} {xs : List Value}, wr.ownsRow 0 e size v m xs → (∀ j, v.ownBlock = some j → vJ.ownBlock ≠ some j) → v.ownBlock ≠ some k.W → (w'.setCell ⟨k.W, 6, none⟩ (.slice (some ⟨g, 0, none⟩) (s.jo.length + 1) c)).ownsRow 0 e size v m xs := fun h1 h2 h3 => own_far (own_chg h1 hc h2) (p := ⟨k.W, 6, none⟩) h3 _
  have far : ∀ {x m cc : Nat} {xs : List Value}, wr.ownsRow 0 3 1 (.slice (some ⟨x, 0, none⟩) m cc) m xs → vJ.ownBlock ≠ some x → g ≠ x := fun {x m cc xs} h1 h2 => by
    rcases hat with e | e
    · rintro rfl; exact h2 e
    · have := own_lt h1 (slice_own x m cc); omega
  refine ⟨hb, { h with blk := hb.set_ 6 _, wh := key h.wh (fun j hj q => ?_) (slice_ne (Ne.symm h.w1)), lo := key h.lo (fun j hj q => ?_) (slice_ne (Ne.symm h.w2)), pa := key h.pa (fun j hj q => ?_) (slice_ne (Ne.symm h.w3)), jo := ?_, ed := key h.ed (fun j hj q => h.eJ hj q) h.wE, j1 := slice_ne (far h.wh h.j1), j2 := slice_ne (far h.lo h.j2), j3 := slice_ne (far h.pa h.j3), nJ := fun y hy => ?_, chg := ?_ }⟩
  · rw [slice_own] at hj; injection hj with hj; subst hj; exact h.j1 q
  · rw [slice_own] at hj; injection hj with hj; subst hj; exact h.j2 q
  · rw [slice_own] at hj; injection hj with hj; subst hj; exact h.j3 q
  · have e : natsV (s.jo ++ [a]) = natsV s.jo ++ [.int .i64 (a : Int)] := by simp [natsV]
    rw [e, List.length_append, List.length_singleton]
    exact own_far ho (p := ⟨k.W, 6, none⟩) (slice_ne hgW) _
  · rw [slice_own] at hy; injection hy with hy; subst hy
    rcases hat with e | e
    · exact h.nJ g e
    · have := h.chg.size; omega
  · exact (h.chg.trans hc (fun i hi hS => absurd (h.nJ i hS) (by omega))).setCell (p := ⟨k.W, 6, none⟩) (fun q => absurd q (by have := h.nW; simp only; omega)) _
theorem int_cell {g c v : Nat} {d : List Int} (h : wr.ownsRow 0 3 1 (.slice (some ⟨g, 0, none⟩) n c) n (intsV d)) (hd : d.length = n) (hv : v < n) : wr.cell? ⟨g, v, none⟩ = some (.int .i64 (PD.g d v)) ∧ wr.frozen? ⟨g, v, none⟩ = false := by
  refine ⟨?_, h.frozenAt _⟩
  rw [h.cellAt v (by omega), intsV, List.getElem?_map, List.getElem?_eq_getElem (by omega)]
  simp [PD.g, List.getD_eq_getElem?_getD, List.getElem?_eq_getElem (show v < d.length by omega)]
/-- What a visit leaves. -/
def WkPost (w0 : World) (n : Nat) (k : Wkr) (s : DF.Wk) (e : Ending) (w' : World) : Prop := e = .returned (.tuple #[]) ∧ ∃ vE vJ, WkAt w0 n k vE vJ s w'
end
end Go.Proofs.YthgniehfejklhaaGreat
namespace Go.Proofs.YthgniehfejklhaaGreat
open Go Go.RowKit
set_option linter.unusedVariables false

def dFst : Code → Code | .seq a _ => a | c => c
def dSnd : Code → Code | .seq _ b => b | c => c
def dArm : Code → Code | .block _ c => c | .loop c => c | c => c
def dThen : Code → Code | .cond _ c _ => c | c => c
def dBody (f : Func) : Code := match f.body with | some c => c | none => .skip
noncomputable def wkLoop : Code := dArm (dArm (dSnd (dFst (dSnd (dSnd (dSnd (dBody Tryz.f98)))))))
noncomputable def wkRound : Code := dArm (dFst (dSnd (dSnd wkLoop)))
noncomputable def wkSeen : Code := dFst (dSnd (dSnd wkRound))
noncomputable def wkTail : Code := dSnd (dSnd (dSnd wkRound))
noncomputable def wk8 : Code := dFst (dThen (dSnd wkSeen))
noncomputable def wkMid : Code := dFst (dSnd (dSnd (dSnd wkTail)))
noncomputable def wk11 : Code := dFst (dSnd (dSnd wkTail))
noncomputable def wk12 : Code := dFst wkMid
noncomputable def wk13 : Code := dThen (dSnd wkMid)
noncomputable def wk17 : Code := dThen (dSnd (dSnd (dSnd (dSnd (dSnd (dBody Tryz.f98))))))
noncomputable def wkBlk : Code := dFst (dSnd (dSnd wkLoop))
noncomputable def wk14 : Code := dSnd (dSnd (dSnd (dSnd wkTail)))

set_option maxHeartbeats 4000000 in
set_option maxRecDepth 100000 in
theorem wk8_any {w0 w : World} {n : Nat} {k : Wkr} {vE vJ : Value} {s : DF.Wk} {a b : Nat} {jb : Bool} (han : a < n) (hbn : b < n) (hn : n ≤ 60) (H : Hid (WkAt w0 n k vE vJ s w)) (HOK : Hid (DF.Ok n s)) (HED : s.ed.length ≤ 60) (Q : Exit → Act → World → Prop) {u2 u3 u4 u5 u6 u7 u8 u9 u10 u12 u13 u14 u15 u16 u17 u18 u19 u20 u21 u22 u23 u24 u25 u26 u27 u28 u29 u30 u31 u32 u33 u34 u35 u36 u37 u38 u39 u40 u41 u42 u43 u44 u45 u46 u47 u48 u49 u50 u51 u52 u53 u54 u55 u56 u57 u58 u59 u60 u61 u62 u63 u64 u65 u66 u67 u68 u69 u70 u71 u72 u73 u74 u75 u76 u77 u78 u79 u80 u81 u82 u83 u84 u85 u86 u87 u88 u89 u90 u91 u92 u93 u94 u95 u96 u97 u98 u99 u100 u101 u102 u103 u104 u105 u106 u107 u108 u109 u110 u111 u112 u113 u114 u115 u116 u117 u118 u119 u120 u121 u122 u123 u124 u125 u126 u127 u128 u129 u130 u131 u132 u133 u134 u135 u136 u137 u138 u139 u140 u141 u142 u143 u144 u145 u146 u147 u148 u149 u150 u151 u152 u153 u154 u155 u156 u157 u158 u159 u160 u161 u162 u163 u164 u165 u166 u167 u168 u169 u170 u171 u172 u173 u174 u175 u176 u177 u178 u179 u180 u181 u182 u183 u184 u185 u186 u187 u188 u189 u190 u191 u192 : Value}
    (hK : ∀ (v69 v70 v71 v72 v73 v74 v75 v76 v77 v78 v79 v80 v81 v82 v83 v84 v85 v86 v87 v88 v89 : Value), ∀ w', WkAt w0 n k vE vJ (DF.low a (PD.g s.wh b) s) w' → Q .normal ⟨List.toArray (.pointer (some ⟨k.W, 0, none⟩) :: .int .i64 (a : Int) :: u2 :: u3 :: u4 :: u5 :: u6 :: u7 :: u8 :: u9 :: u10 :: .int .i64 (b : Int) :: u12 :: u13 :: u14 :: u15 :: u16 :: u17 :: u18 :: u19 :: u20 :: u21 :: u22 :: u23 :: u24 :: u25 :: u26 :: u27 :: u28 :: u29 :: u30 :: u31 :: u32 :: u33 :: u34 :: u35 :: u36 :: u37 :: u38 :: u39 :: u40 :: u41 :: u42 :: u43 :: u44 :: u45 :: u46 :: u47 :: u48 :: u49 :: u50 :: u51 :: u52 :: u53 :: u54 :: u55 :: u56 :: u57 :: u58 :: u59 :: u60 :: u61 :: u62 :: u63 :: u64 :: u65 :: u66 :: u67 :: u68 :: v69 :: v70 :: v71 :: v72 :: v73 :: v74 :: v75 :: v76 :: v77 :: v78 :: v79 :: v80 :: v81 :: v82 :: v83 :: v84 :: v85 :: v86 :: v87 :: v88 :: v89 :: u90 :: u91 :: u92 :: u93 :: u94 :: u95 :: u96 :: u97 :: u98 :: u99 :: u100 :: u101 :: u102 :: u103 :: u104 :: u105 :: u106 :: u107 :: u108 :: u109 :: u110 :: u111 :: u112 :: u113 :: u114 :: u115 :: u116 :: u117 :: u118 :: u119 :: u120 :: u121 :: u122 :: u123 :: u124 :: u125 :: u126 :: u127 :: u128 :: u129 :: u130 :: u131 :: u132 :: u133 :: u134 :: u135 :: u136 :: u137 :: u138 :: u139 :: u140 :: u141 :: u142 :: u143 :: u144 :: u145 :: u146 :: u147 :: u148 :: u149 :: u150 :: u151 :: u152 :: u153 :: u154 :: u155 :: u156 :: u157 :: u158 :: u159 :: u160 :: u161 :: u162 :: u163 :: u164 :: u165 :: u166 :: u167 :: u168 :: u169 :: u170 :: u171 :: u172 :: u173 :: u174 :: u175 :: u176 :: u177 :: u178 :: u179 :: u180 :: u181 :: u182 :: u183 :: u184 :: u185 :: u186 :: u187 :: u188 :: u189 :: u190 :: u191 :: u192 :: []), []⟩ w') :
    Code.wp Tryz.prog wk8 Q ⟨List.toArray (.pointer (some ⟨k.W, 0, none⟩) :: .int .i64 (a : Int) :: u2 :: u3 :: u4 :: u5 :: u6 :: u7 :: u8 :: u9 :: u10 :: .int .i64 (b : Int) :: u12 :: u13 :: u14 :: u15 :: u16 :: u17 :: u18 :: u19 :: u20 :: u21 :: u22 :: u23 :: u24 :: u25 :: u26 :: u27 :: u28 :: u29 :: u30 :: u31 :: u32 :: u33 :: u34 :: u35 :: u36 :: u37 :: u38 :: u39 :: u40 :: u41 :: u42 :: u43 :: u44 :: u45 :: u46 :: u47 :: u48 :: u49 :: u50 :: u51 :: u52 :: u53 :: u54 :: u55 :: u56 :: u57 :: u58 :: u59 :: u60 :: u61 :: u62 :: u63 :: u64 :: u65 :: u66 :: u67 :: u68 :: u69 :: u70 :: u71 :: u72 :: u73 :: u74 :: u75 :: u76 :: u77 :: u78 :: u79 :: u80 :: u81 :: u82 :: u83 :: u84 :: u85 :: u86 :: u87 :: u88 :: u89 :: u90 :: u91 :: u92 :: u93 :: u94 :: u95 :: u96 :: u97 :: u98 :: u99 :: u100 :: u101 :: u102 :: u103 :: u104 :: u105 :: u106 :: u107 :: u108 :: u109 :: u110 :: u111 :: u112 :: u113 :: u114 :: u115 :: u116 :: u117 :: u118 :: u119 :: u120 :: u121 :: u122 :: u123 :: u124 :: u125 :: u126 :: u127 :: u128 :: u129 :: u130 :: u131 :: u132 :: u133 :: u134 :: u135 :: u136 :: u137 :: u138 :: u139 :: u140 :: u141 :: u142 :: u143 :: u144 :: u145 :: u146 :: u147 :: u148 :: u149 :: u150 :: u151 :: u152 :: u153 :: u154 :: u155 :: u156 :: u157 :: u158 :: u159 :: u160 :: u161 :: u162 :: u163 :: u164 :: u165 :: u166 :: u167 :: u168 :: u169 :: u170 :: u171 :: u172 :: u173 :: u174 :: u175 :: u176 :: u177 :: u178 :: u179 :: u180 :: u181 :: u182 :: u183 :: u184 :: u185 :: u186 :: u187 :: u188 :: u189 :: u190 :: u191 :: u192 :: []), []⟩ w := by
  have HK := Lib.hid hK
  clear hK
  have hai : (a : Int) < (n : Int) := by omega
  have ha0 : (0 : Int) ≤ (a : Int) := by omega
  have hbi : (b : Int) < (n : Int) := by omega
  have hb0 : (0 : Int) ≤ (b : Int) := by omega
  have c1 : w.cell? ⟨k.W, 1, none⟩ = some (.slice (some ⟨k.gw, 0, none⟩) n n) := H.out.blk.cell 1
  have c2 : w.cell? ⟨k.W, 2, none⟩ = some (.slice (some ⟨k.gl, 0, none⟩) n n) := H.out.blk.cell 2
  obtain ⟨r1, g1⟩ := int_cell H.out.lo HOK.out.ll han
  obtain ⟨r2, g2⟩ := int_cell H.out.lo HOK.out.ll hbn
  obtain ⟨r3, g3⟩ := int_cell H.out.wh HOK.out.wl hbn
  obtain ⟨r4, g4⟩ := int_cell H.out.wh HOK.out.wl han
  simp only [wk8, wkSeen, wkRound, wkLoop, dBody, dFst, dSnd, dArm, dThen, Tryz.f98]
  have H4 : Hid (∀ x, x = min (PD.g s.lo a) (PD.g s.wh b) → WkAt w0 n k vE vJ (DF.low a (PD.g s.wh b) s) (w.setCell ⟨k.gl, a, none⟩ (.int .i64 x)).drew) := by
    rintro _ rfl
    exact (H.out.setL a _).drew
  go_still_tail 21, (by kernel_rfl)
  go_wp2
  all_goals exact HK.out _ _ _ _ _ _ _ _ _ _ _ _ _ _ _ _ _ _ _ _ _ _ (H4.out _ (by omega))

set_option maxHeartbeats 4000000 in
set_option maxRecDepth 100000 in
theorem wk11_any {w0 w : World} {n : Nat} {k : Wkr} {vE vJ : Value} {s : DF.Wk} {a b : Nat} {jb : Bool} (han : a < n) (hbn : b < n) (hn : n ≤ 60) (H : Hid (WkAt w0 n k vE vJ s w)) (HOK : Hid (DF.Ok n s)) (HED : s.ed.length ≤ 60) (Q : Exit → Act → World → Prop) {u2 u3 u4 u5 u6 u7 u8 u9 u10 u12 u13 u14 u15 u16 u17 u18 u19 u20 u21 u22 u23 u24 u25 u26 u27 u28 u29 u30 u31 u32 u33 u34 u35 u36 u37 u38 u39 u40 u41 u42 u43 u44 u45 u46 u47 u48 u49 u50 u51 u52 u53 u54 u55 u56 u57 u58 u59 u60 u61 u62 u63 u64 u65 u66 u67 u68 u69 u70 u71 u72 u73 u74 u75 u76 u77 u78 u79 u80 u81 u82 u83 u84 u85 u86 u87 u88 u89 u90 u91 u92 u93 u94 u95 u96 u97 u98 u99 u100 u101 u102 u103 u104 u105 u106 u107 u108 u109 u110 u111 u112 u113 u114 u115 u116 u117 u118 u119 u120 u121 u122 u123 u124 u125 u126 u127 u128 u129 u130 u131 u132 u133 u134 u135 u136 u137 u138 u139 u140 u141 u142 u143 u144 u145 u146 u147 u148 u149 u150 u151 u152 u153 u154 u155 u156 u157 u158 u159 u160 u161 u162 u163 u164 u165 u166 u167 u168 u169 u170 u171 u172 u173 u174 u175 u176 u177 u178 u179 u180 u181 u182 u183 u184 u185 u186 u187 u188 u189 u190 u191 u192 : Value}
    (hK : ∀ (v97 v98 v99 v100 v101 v102 v103 v104 v105 v106 v107 v108 v109 v110 v111 v112 v113 v114 v115 v116 v117 : Value), ∀ w', WkAt w0 n k vE vJ (DF.low a (PD.g s.lo b) s) w' → Q .normal ⟨List.toArray (.pointer (some ⟨k.W, 0, none⟩) :: .int .i64 (a : Int) :: u2 :: u3 :: u4 :: u5 :: u6 :: u7 :: u8 :: u9 :: u10 :: .int .i64 (b : Int) :: u12 :: u13 :: u14 :: u15 :: u16 :: u17 :: u18 :: u19 :: u20 :: u21 :: u22 :: u23 :: u24 :: u25 :: u26 :: u27 :: u28 :: u29 :: u30 :: u31 :: u32 :: u33 :: u34 :: u35 :: u36 :: u37 :: u38 :: u39 :: u40 :: u41 :: u42 :: u43 :: u44 :: u45 :: u46 :: u47 :: u48 :: u49 :: u50 :: u51 :: u52 :: u53 :: u54 :: u55 :: u56 :: u57 :: u58 :: u59 :: u60 :: u61 :: u62 :: u63 :: u64 :: u65 :: u66 :: u67 :: u68 :: u69 :: u70 :: u71 :: u72 :: u73 :: u74 :: u75 :: u76 :: u77 :: u78 :: u79 :: u80 :: u81 :: u82 :: u83 :: u84 :: u85 :: u86 :: u87 :: u88 :: u89 :: u90 :: u91 :: u92 :: u93 :: u94 :: u95 :: u96 :: v97 :: v98 :: v99 :: v100 :: v101 :: v102 :: v103 :: v104 :: v105 :: v106 :: v107 :: v108 :: v109 :: v110 :: v111 :: v112 :: v113 :: v114 :: v115 :: v116 :: v117 :: u118 :: u119 :: u120 :: u121 :: u122 :: u123 :: u124 :: u125 :: u126 :: u127 :: u128 :: u129 :: u130 :: u131 :: u132 :: u133 :: u134 :: u135 :: u136 :: u137 :: u138 :: u139 :: u140 :: u141 :: u142 :: u143 :: u144 :: u145 :: u146 :: u147 :: u148 :: u149 :: u150 :: u151 :: u152 :: u153 :: u154 :: u155 :: u156 :: u157 :: u158 :: u159 :: u160 :: u161 :: u162 :: u163 :: u164 :: u165 :: u166 :: u167 :: u168 :: u169 :: u170 :: u171 :: u172 :: u173 :: u174 :: u175 :: u176 :: u177 :: u178 :: u179 :: u180 :: u181 :: u182 :: u183 :: u184 :: u185 :: u186 :: u187 :: u188 :: u189 :: u190 :: u191 :: u192 :: []), []⟩ w') :
    Code.wp Tryz.prog wk11 Q ⟨List.toArray (.pointer (some ⟨k.W, 0, none⟩) :: .int .i64 (a : Int) :: u2 :: u3 :: u4 :: u5 :: u6 :: u7 :: u8 :: u9 :: u10 :: .int .i64 (b : Int) :: u12 :: u13 :: u14 :: u15 :: u16 :: u17 :: u18 :: u19 :: u20 :: u21 :: u22 :: u23 :: u24 :: u25 :: u26 :: u27 :: u28 :: u29 :: u30 :: u31 :: u32 :: u33 :: u34 :: u35 :: u36 :: u37 :: u38 :: u39 :: u40 :: u41 :: u42 :: u43 :: u44 :: u45 :: u46 :: u47 :: u48 :: u49 :: u50 :: u51 :: u52 :: u53 :: u54 :: u55 :: u56 :: u57 :: u58 :: u59 :: u60 :: u61 :: u62 :: u63 :: u64 :: u65 :: u66 :: u67 :: u68 :: u69 :: u70 :: u71 :: u72 :: u73 :: u74 :: u75 :: u76 :: u77 :: u78 :: u79 :: u80 :: u81 :: u82 :: u83 :: u84 :: u85 :: u86 :: u87 :: u88 :: u89 :: u90 :: u91 :: u92 :: u93 :: u94 :: u95 :: u96 :: u97 :: u98 :: u99 :: u100 :: u101 :: u102 :: u103 :: u104 :: u105 :: u106 :: u107 :: u108 :: u109 :: u110 :: u111 :: u112 :: u113 :: u114 :: u115 :: u116 :: u117 :: u118 :: u119 :: u120 :: u121 :: u122 :: u123 :: u124 :: u125 :: u126 :: u127 :: u128 :: u129 :: u130 :: u131 :: u132 :: u133 :: u134 :: u135 :: u136 :: u137 :: u138 :: u139 :: u140 :: u141 :: u142 :: u143 :: u144 :: u145 :: u146 :: u147 :: u148 :: u149 :: u150 :: u151 :: u152 :: u153 :: u154 :: u155 :: u156 :: u157 :: u158 :: u159 :: u160 :: u161 :: u162 :: u163 :: u164 :: u165 :: u166 :: u167 :: u168 :: u169 :: u170 :: u171 :: u172 :: u173 :: u174 :: u175 :: u176 :: u177 :: u178 :: u179 :: u180 :: u181 :: u182 :: u183 :: u184 :: u185 :: u186 :: u187 :: u188 :: u189 :: u190 :: u191 :: u192 :: []), []⟩ w := by
  have HK := Lib.hid hK
  clear hK
  have hai : (a : Int) < (n : Int) := by omega
  have ha0 : (0 : Int) ≤ (a : Int) := by omega
  have hbi : (b : Int) < (n : Int) := by omega
  have hb0 : (0 : Int) ≤ (b : Int) := by omega
  have c1 : w.cell? ⟨k.W, 1, none⟩ = some (.slice (some ⟨k.gw, 0, none⟩) n n) := H.out.blk.cell 1
  have c2 : w.cell? ⟨k.W, 2, none⟩ = some (.slice (some ⟨k.gl, 0, none⟩) n n) := H.out.blk.cell 2
  obtain ⟨r1, g1⟩ := int_cell H.out.lo HOK.out.ll han
  obtain ⟨r2, g2⟩ := int_cell H.out.lo HOK.out.ll hbn
  obtain ⟨r3, g3⟩ := int_cell H.out.wh HOK.out.wl hbn
  obtain ⟨r4, g4⟩ := int_cell H.out.wh HOK.out.wl han
  simp only [wk11, wkTail, wkRound, wkLoop, dBody, dFst, dSnd, dArm, Tryz.f98]
  have H4 : Hid (∀ x, x = min (PD.g s.lo a) (PD.g s.lo b) → WkAt w0 n k vE vJ (DF.low a (PD.g s.lo b) s) (w.setCell ⟨k.gl, a, none⟩ (.int .i64 x)).drew) := by
    rintro _ rfl
    exact (H.out.setL a _).drew
  go_still_tail 21, (by kernel_rfl)
  go_wp2
  all_goals exact HK.out _ _ _ _ _ _ _ _ _ _ _ _ _ _ _ _ _ _ _ _ _ _ (H4.out _ (by omega))

set_option maxHeartbeats 4000000 in
set_option maxRecDepth 100000 in
theorem wk12_any {w0 w : World} {n : Nat} {k : Wkr} {vE vJ : Value} {s : DF.Wk} {a b : Nat} {jb : Bool} (han : a < n) (hbn : b < n) (hn : n ≤ 60) (H : Hid (WkAt w0 n k vE vJ s w)) (HOK : Hid (DF.Ok n s)) (HED : s.ed.length ≤ 60) (Q : Exit → Act → World → Prop) {u2 u3 u4 u5 u6 u7 u8 u9 u10 u12 u13 u14 u15 u16 u17 u18 u19 u20 u21 u22 u23 u24 u25 u26 u27 u28 u29 u30 u31 u32 u33 u34 u35 u36 u37 u38 u39 u40 u41 u42 u43 u44 u45 u46 u47 u48 u49 u50 u51 u52 u53 u54 u55 u56 u57 u58 u59 u60 u61 u62 u63 u64 u65 u66 u67 u68 u69 u70 u71 u72 u73 u74 u75 u76 u77 u78 u79 u80 u81 u82 u83 u84 u85 u86 u87 u88 u89 u90 u91 u92 u93 u94 u95 u96 u97 u98 u99 u100 u101 u102 u103 u104 u105 u106 u107 u108 u109 u110 u111 u112 u113 u114 u115 u116 u117 u118 u119 u120 u121 u122 u123 u124 u125 u126 u127 u128 u129 u130 u131 u132 u133 u134 u135 u136 u137 u138 u139 u140 u141 u142 u143 u144 u145 u146 u147 u148 u149 u150 u151 u152 u153 u154 u155 u156 u157 u158 u159 u160 u161 u162 u163 u164 u165 u166 u167 u168 u169 u170 u171 u172 u173 u174 u175 u176 u177 u178 u179 u180 u181 u182 u183 u184 u185 u186 u187 u188 u189 u190 u191 u192 : Value}
    (hK : ∀ (v118 v119 v120 v121 v122 v123 v124 v125 v126 v127 v128 v129 v130 v131 : Value), ∀ w', WkAt w0 n k vE vJ s w' → Q .normal ⟨List.toArray (.pointer (some ⟨k.W, 0, none⟩) :: .int .i64 (a : Int) :: u2 :: u3 :: u4 :: u5 :: u6 :: u7 :: u8 :: u9 :: u10 :: .int .i64 (b : Int) :: u12 :: u13 :: u14 :: u15 :: u16 :: u17 :: u18 :: u19 :: u20 :: u21 :: u22 :: u23 :: u24 :: u25 :: u26 :: u27 :: u28 :: u29 :: u30 :: u31 :: u32 :: u33 :: u34 :: u35 :: u36 :: u37 :: u38 :: u39 :: u40 :: u41 :: u42 :: u43 :: u44 :: u45 :: u46 :: u47 :: u48 :: u49 :: u50 :: u51 :: u52 :: u53 :: u54 :: u55 :: u56 :: u57 :: u58 :: u59 :: u60 :: u61 :: u62 :: u63 :: u64 :: u65 :: u66 :: u67 :: u68 :: u69 :: u70 :: u71 :: u72 :: u73 :: u74 :: u75 :: u76 :: u77 :: u78 :: u79 :: u80 :: u81 :: u82 :: u83 :: u84 :: u85 :: u86 :: u87 :: u88 :: u89 :: u90 :: u91 :: u92 :: u93 :: u94 :: u95 :: u96 :: u97 :: u98 :: u99 :: u100 :: u101 :: u102 :: u103 :: u104 :: u105 :: u106 :: u107 :: u108 :: u109 :: u110 :: u111 :: u112 :: u113 :: u114 :: u115 :: u116 :: u117 :: v118 :: v119 :: v120 :: v121 :: v122 :: v123 :: v124 :: v125 :: v126 :: v127 :: v128 :: v129 :: v130 :: v131 :: .bool (decide (PD.g s.wh a < PD.g s.lo b)) :: u133 :: u134 :: u135 :: u136 :: u137 :: u138 :: u139 :: u140 :: u141 :: u142 :: u143 :: u144 :: u145 :: u146 :: u147 :: u148 :: u149 :: u150 :: u151 :: u152 :: u153 :: u154 :: u155 :: u156 :: u157 :: u158 :: u159 :: u160 :: u161 :: u162 :: u163 :: u164 :: u165 :: u166 :: u167 :: u168 :: u169 :: u170 :: u171 :: u172 :: u173 :: u174 :: u175 :: u176 :: u177 :: u178 :: u179 :: u180 :: u181 :: u182 :: u183 :: u184 :: u185 :: u186 :: u187 :: u188 :: u189 :: u190 :: u191 :: u192 :: []), []⟩ w') :
    Code.wp Tryz.prog wk12 Q ⟨List.toArray (.pointer (some ⟨k.W, 0, none⟩) :: .int .i64 (a : Int) :: u2 :: u3 :: u4 :: u5 :: u6 :: u7 :: u8 :: u9 :: u10 :: .int .i64 (b : Int) :: u12 :: u13 :: u14 :: u15 :: u16 :: u17 :: u18 :: u19 :: u20 :: u21 :: u22 :: u23 :: u24 :: u25 :: u26 :: u27 :: u28 :: u29 :: u30 :: u31 :: u32 :: u33 :: u34 :: u35 :: u36 :: u37 :: u38 :: u39 :: u40 :: u41 :: u42 :: u43 :: u44 :: u45 :: u46 :: u47 :: u48 :: u49 :: u50 :: u51 :: u52 :: u53 :: u54 :: u55 :: u56 :: u57 :: u58 :: u59 :: u60 :: u61 :: u62 :: u63 :: u64 :: u65 :: u66 :: u67 :: u68 :: u69 :: u70 :: u71 :: u72 :: u73 :: u74 :: u75 :: u76 :: u77 :: u78 :: u79 :: u80 :: u81 :: u82 :: u83 :: u84 :: u85 :: u86 :: u87 :: u88 :: u89 :: u90 :: u91 :: u92 :: u93 :: u94 :: u95 :: u96 :: u97 :: u98 :: u99 :: u100 :: u101 :: u102 :: u103 :: u104 :: u105 :: u106 :: u107 :: u108 :: u109 :: u110 :: u111 :: u112 :: u113 :: u114 :: u115 :: u116 :: u117 :: u118 :: u119 :: u120 :: u121 :: u122 :: u123 :: u124 :: u125 :: u126 :: u127 :: u128 :: u129 :: u130 :: u131 :: u132 :: u133 :: u134 :: u135 :: u136 :: u137 :: u138 :: u139 :: u140 :: u141 :: u142 :: u143 :: u144 :: u145 :: u146 :: u147 :: u148 :: u149 :: u150 :: u151 :: u152 :: u153 :: u154 :: u155 :: u156 :: u157 :: u158 :: u159 :: u160 :: u161 :: u162 :: u163 :: u164 :: u165 :: u166 :: u167 :: u168 :: u169 :: u170 :: u171 :: u172 :: u173 :: u174 :: u175 :: u176 :: u177 :: u178 :: u179 :: u180 :: u181 :: u182 :: u183 :: u184 :: u185 :: u186 :: u187 :: u188 :: u189 :: u190 :: u191 :: u192 :: []), []⟩ w := by
  have HK := Lib.hid hK
  clear hK
  have hai : (a : Int) < (n : Int) := by omega
  have ha0 : (0 : Int) ≤ (a : Int) := by omega
  have hbi : (b : Int) < (n : Int) := by omega
  have hb0 : (0 : Int) ≤ (b : Int) := by omega
  have c1 : w.cell? ⟨k.W, 1, none⟩ = some (.slice (some ⟨k.gw, 0, none⟩) n n) := H.out.blk.cell 1
  have c2 : w.cell? ⟨k.W, 2, none⟩ = some (.slice (some ⟨k.gl, 0, none⟩) n n) := H.out.blk.cell 2
  obtain ⟨r1, g1⟩ := int_cell H.out.lo HOK.out.ll han
  obtain ⟨r2, g2⟩ := int_cell H.out.lo HOK.out.ll hbn
  obtain ⟨r3, g3⟩ := int_cell H.out.wh HOK.out.wl hbn
  obtain ⟨r4, g4⟩ := int_cell H.out.wh HOK.out.wl han
  simp only [wk12, wkMid, wkTail, wkRound, wkLoop, dBody, dFst, dSnd, dArm, Tryz.f98]
  go_quiet (fail)
  exact HK.out _ _ _ _ _ _ _ _ _ _ _ _ _ _ _ (H.out.drewN nq)

set_option maxHeartbeats 4000000 in
set_option maxRecDepth 100000 in
theorem wk14_any {w0 w : World} {n : Nat} {k : Wkr} {vE vJ : Value} {s : DF.Wk} {a b : Nat} {jb : Bool} (han : a < n) (hbn : b < n) (hn : n ≤ 60) (H : Hid (WkAt w0 n k vE vJ s w)) (HOK : Hid (DF.Ok n s)) (HED : s.ed.length ≤ 60) (Q : Exit → Act → World → Prop) {u2 u3 u4 u5 u6 u7 u8 u10 u12 u13 u14 u15 u16 u17 u18 u19 u20 u21 u22 u23 u24 u25 u26 u27 u28 u29 u30 u31 u32 u33 u34 u35 u36 u37 u38 u39 u40 u41 u42 u43 u44 u45 u46 u47 u48 u49 u50 u51 u52 u53 u54 u55 u56 u57 u58 u59 u60 u61 u62 u63 u64 u65 u66 u67 u68 u69 u70 u71 u72 u73 u74 u75 u76 u77 u78 u79 u80 u81 u82 u83 u84 u85 u86 u87 u88 u89 u90 u91 u92 u93 u94 u95 u96 u97 u98 u99 u100 u101 u102 u103 u104 u105 u106 u107 u108 u109 u110 u111 u112 u113 u114 u115 u116 u117 u118 u119 u120 u121 u122 u123 u124 u125 u126 u127 u128 u129 u130 u131 u132 u133 u134 u135 u136 u137 u138 u139 u140 u141 u142 u143 u144 u145 u146 u147 u148 u149 u150 u151 u152 u153 u154 u155 u156 u157 u158 u159 u160 u161 u162 u163 u164 u165 u166 u167 u168 u169 u170 u171 u172 u173 u174 u175 u176 u177 u178 u179 u180 u181 u182 u183 u184 u185 u186 u187 u188 u189 u190 u191 u192 : Value}
    (hK : ∀ (v149 v150 v151 v152 v153 v154 v155 v156 v157 v158 v159 v160 v161 v162 v163 v164 v165 v166 : Value), ∀ w', WkAt w0 n k vE vJ s w' → Q .normal ⟨List.toArray (.pointer (some ⟨k.W, 0, none⟩) :: .int .i64 (a : Int) :: u2 :: u3 :: u4 :: u5 :: u6 :: u7 :: u8 :: .bool (jb || decide (PD.g s.wh a ≤ PD.g s.lo b)) :: u10 :: .int .i64 (b : Int) :: u12 :: u13 :: u14 :: u15 :: u16 :: u17 :: u18 :: u19 :: u20 :: u21 :: u22 :: u23 :: u24 :: u25 :: u26 :: u27 :: u28 :: u29 :: u30 :: u31 :: u32 :: u33 :: u34 :: u35 :: u36 :: u37 :: u38 :: u39 :: u40 :: u41 :: u42 :: u43 :: u44 :: u45 :: u46 :: u47 :: u48 :: u49 :: u50 :: u51 :: u52 :: u53 :: u54 :: u55 :: u56 :: u57 :: u58 :: u59 :: u60 :: u61 :: u62 :: u63 :: u64 :: u65 :: u66 :: u67 :: u68 :: u69 :: u70 :: u71 :: u72 :: u73 :: u74 :: u75 :: u76 :: u77 :: u78 :: u79 :: u80 :: u81 :: u82 :: u83 :: u84 :: u85 :: u86 :: u87 :: u88 :: u89 :: u90 :: u91 :: u92 :: u93 :: u94 :: u95 :: u96 :: u97 :: u98 :: u99 :: u100 :: u101 :: u102 :: u103 :: u104 :: u105 :: u106 :: u107 :: u108 :: u109 :: u110 :: u111 :: u112 :: u113 :: u114 :: u115 :: u116 :: u117 :: u118 :: u119 :: u120 :: u121 :: u122 :: u123 :: u124 :: u125 :: u126 :: u127 :: u128 :: u129 :: u130 :: u131 :: u132 :: u133 :: u134 :: u135 :: u136 :: u137 :: u138 :: u139 :: u140 :: u141 :: u142 :: u143 :: u144 :: u145 :: u146 :: u147 :: u148 :: v149 :: v150 :: v151 :: v152 :: v153 :: v154 :: v155 :: v156 :: v157 :: v158 :: v159 :: v160 :: v161 :: v162 :: v163 :: v164 :: v165 :: v166 :: u167 :: u168 :: u169 :: u170 :: u171 :: u172 :: u173 :: u174 :: u175 :: u176 :: u177 :: u178 :: u179 :: u180 :: u181 :: u182 :: u183 :: u184 :: u185 :: u186 :: u187 :: u188 :: u189 :: u190 :: u191 :: u192 :: []), []⟩ w') :
    Code.wp Tryz.prog wk14 Q ⟨List.toArray (.pointer (some ⟨k.W, 0, none⟩) :: .int .i64 (a : Int) :: u2 :: u3 :: u4 :: u5 :: u6 :: u7 :: u8 :: .bool jb :: u10 :: .int .i64 (b : Int) :: u12 :: u13 :: u14 :: u15 :: u16 :: u17 :: u18 :: u19 :: u20 :: u21 :: u22 :: u23 :: u24 :: u25 :: u26 :: u27 :: u28 :: u29 :: u30 :: u31 :: u32 :: u33 :: u34 :: u35 :: u36 :: u37 :: u38 :: u39 :: u40 :: u41 :: u42 :: u43 :: u44 :: u45 :: u46 :: u47 :: u48 :: u49 :: u50 :: u51 :: u52 :: u53 :: u54 :: u55 :: u56 :: u57 :: u58 :: u59 :: u60 :: u61 :: u62 :: u63 :: u64 :: u65 :: u66 :: u67 :: u68 :: u69 :: u70 :: u71 :: u72 :: u73 :: u74 :: u75 :: u76 :: u77 :: u78 :: u79 :: u80 :: u81 :: u82 :: u83 :: u84 :: u85 :: u86 :: u87 :: u88 :: u89 :: u90 :: u91 :: u92 :: u93 :: u94 :: u95 :: u96 :: u97 :: u98 :: u99 :: u100 :: u101 :: u102 :: u103 :: u104 :: u105 :: u106 :: u107 :: u108 :: u109 :: u110 :: u111 :: u112 :: u113 :: u114 :: u115 :: u116 :: u117 :: u118 :: u119 :: u120 :: u121 :: u122 :: u123 :: u124 :: u125 :: u126 :: u127 :: u128 :: u129 :: u130 :: u131 :: u132 :: u133 :: u134 :: u135 :: u136 :: u137 :: u138 :: u139 :: u140 :: u141 :: u142 :: u143 :: u144 :: u145 :: u146 :: u147 :: u148 :: u149 :: u150 :: u151 :: u152 :: u153 :: u154 :: u155 :: u156 :: u157 :: u158 :: u159 :: u160 :: u161 :: u162 :: u163 :: u164 :: u165 :: u166 :: u167 :: u168 :: u169 :: u170 :: u171 :: u172 :: u173 :: u174 :: u175 :: u176 :: u177 :: u178 :: u179 :: u180 :: u181 :: u182 :: u183 :: u184 :: u185 :: u186 :: u187 :: u188 :: u189 :: u190 :: u191 :: u192 :: []), []⟩ w := by
  have HK := Lib.hid hK
  clear hK
  have hai : (a : Int) < (n : Int) := by omega
  have ha0 : (0 : Int) ≤ (a : Int) := by omega
  have hbi : (b : Int) < (n : Int) := by omega
  have hb0 : (0 : Int) ≤ (b : Int) := by omega
  have c1 : w.cell? ⟨k.W, 1, none⟩ = some (.slice (some ⟨k.gw, 0, none⟩) n n) := H.out.blk.cell 1
  have c2 : w.cell? ⟨k.W, 2, none⟩ = some (.slice (some ⟨k.gl, 0, none⟩) n n) := H.out.blk.cell 2
  obtain ⟨r1, g1⟩ := int_cell H.out.lo HOK.out.ll han
  obtain ⟨r2, g2⟩ := int_cell H.out.lo HOK.out.ll hbn
  obtain ⟨r3, g3⟩ := int_cell H.out.wh HOK.out.wl hbn
  obtain ⟨r4, g4⟩ := int_cell H.out.wh HOK.out.wl han
  simp only [wk14, wkTail, wkRound, wkLoop, dBody, dFst, dSnd, dArm, Tryz.f98]
  cases jb
  · go_quiet (fail)
    exact HK.out _ _ _ _ _ _ _ _ _ _ _ _ _ _ _ _ _ _ _ (H.out.drewN nq)
  · go_quiet (fail)
    exact HK.out _ _ _ _ _ _ _ _ _ _ _ _ _ _ _ _ _ _ _ (H.out.drewN nq)

set_option maxHeartbeats 4000000 in
set_option maxRecDepth 100000 in
theorem wk13_any {w0 w : World} {n : Nat} {k : Wkr} {vE vJ : Value} {s : DF.Wk} {a b : Nat} {jb : Bool} (han : a < n) (hbn : b < n) (hn : n ≤ 60) (H : Hid (WkAt w0 n k vE vJ s w)) (HOK : Hid (DF.Ok n s)) (HED : s.ed.length ≤ 60) (hne : a ≠ b) (Q : Exit → Act → World → Prop) {u2 u3 u4 u5 u6 u7 u8 u9 u10 u12 u13 u14 u15 u16 u17 u18 u19 u20 u21 u22 u23 u24 u25 u26 u27 u28 u29 u30 u31 u32 u33 u34 u35 u36 u37 u38 u39 u40 u41 u42 u43 u44 u45 u46 u47 u48 u49 u50 u51 u52 u53 u54 u55 u56 u57 u58 u59 u60 u61 u62 u63 u64 u65 u66 u67 u68 u69 u70 u71 u72 u73 u74 u75 u76 u77 u78 u79 u80 u81 u82 u83 u84 u85 u86 u87 u88 u89 u90 u91 u92 u93 u94 u95 u96 u97 u98 u99 u100 u101 u102 u103 u104 u105 u106 u107 u108 u109 u110 u111 u112 u113 u114 u115 u116 u117 u118 u119 u120 u121 u122 u123 u124 u125 u126 u127 u128 u129 u130 u131 u132 u133 u134 u135 u136 u137 u138 u139 u140 u141 u142 u143 u144 u145 u146 u147 u148 u149 u150 u151 u152 u153 u154 u155 u156 u157 u158 u159 u160 u161 u162 u163 u164 u165 u166 u167 u168 u169 u170 u171 u172 u173 u174 u175 u176 u177 u178 u179 u180 u181 u182 u183 u184 u185 u186 u187 u188 u189 u190 u191 u192 : Value}
    (hK : ∀ (v133 v134 v135 v136 v137 v138 v139 v140 v141 v142 v143 v144 v145 v146 v147 v148 : Value), ∀ (vE' : Value) (w' : World), WkAt w0 n k vE' vJ { s with ed := s.ed ++ [DF.ek a b] } w' → Q .normal ⟨List.toArray (.pointer (some ⟨k.W, 0, none⟩) :: .int .i64 (a : Int) :: u2 :: u3 :: u4 :: u5 :: u6 :: u7 :: u8 :: u9 :: u10 :: .int .i64 (b : Int) :: u12 :: u13 :: u14 :: u15 :: u16 :: u17 :: u18 :: u19 :: u20 :: u21 :: u22 :: u23 :: u24 :: u25 :: u26 :: u27 :: u28 :: u29 :: u30 :: u31 :: u32 :: u33 :: u34 :: u35 :: u36 :: u37 :: u38 :: u39 :: u40 :: u41 :: u42 :: u43 :: u44 :: u45 :: u46 :: u47 :: u48 :: u49 :: u50 :: u51 :: u52 :: u53 :: u54 :: u55 :: u56 :: u57 :: u58 :: u59 :: u60 :: u61 :: u62 :: u63 :: u64 :: u65 :: u66 :: u67 :: u68 :: u69 :: u70 :: u71 :: u72 :: u73 :: u74 :: u75 :: u76 :: u77 :: u78 :: u79 :: u80 :: u81 :: u82 :: u83 :: u84 :: u85 :: u86 :: u87 :: u88 :: u89 :: u90 :: u91 :: u92 :: u93 :: u94 :: u95 :: u96 :: u97 :: u98 :: u99 :: u100 :: u101 :: u102 :: u103 :: u104 :: u105 :: u106 :: u107 :: u108 :: u109 :: u110 :: u111 :: u112 :: u113 :: u114 :: u115 :: u116 :: u117 :: u118 :: u119 :: u120 :: u121 :: u122 :: u123 :: u124 :: u125 :: u126 :: u127 :: u128 :: u129 :: u130 :: u131 :: u132 :: v133 :: v134 :: v135 :: v136 :: v137 :: v138 :: v139 :: v140 :: v141 :: v142 :: v143 :: v144 :: v145 :: v146 :: v147 :: v148 :: u149 :: u150 :: u151 :: u152 :: u153 :: u154 :: u155 :: u156 :: u157 :: u158 :: u159 :: u160 :: u161 :: u162 :: u163 :: u164 :: u165 :: u166 :: u167 :: u168 :: u169 :: u170 :: u171 :: u172 :: u173 :: u174 :: u175 :: u176 :: u177 :: u178 :: u179 :: u180 :: u181 :: u182 :: u183 :: u184 :: u185 :: u186 :: u187 :: u188 :: u189 :: u190 :: u191 :: u192 :: []), []⟩ w') :
    Code.wp Tryz.prog wk13 Q ⟨List.toArray (.pointer (some ⟨k.W, 0, none⟩) :: .int .i64 (a : Int) :: u2 :: u3 :: u4 :: u5 :: u6 :: u7 :: u8 :: u9 :: u10 :: .int .i64 (b : Int) :: u12 :: u13 :: u14 :: u15 :: u16 :: u17 :: u18 :: u19 :: u20 :: u21 :: u22 :: u23 :: u24 :: u25 :: u26 :: u27 :: u28 :: u29 :: u30 :: u31 :: u32 :: u33 :: u34 :: u35 :: u36 :: u37 :: u38 :: u39 :: u40 :: u41 :: u42 :: u43 :: u44 :: u45 :: u46 :: u47 :: u48 :: u49 :: u50 :: u51 :: u52 :: u53 :: u54 :: u55 :: u56 :: u57 :: u58 :: u59 :: u60 :: u61 :: u62 :: u63 :: u64 :: u65 :: u66 :: u67 :: u68 :: u69 :: u70 :: u71 :: u72 :: u73 :: u74 :: u75 :: u76 :: u77 :: u78 :: u79 :: u80 :: u81 :: u82 :: u83 :: u84 :: u85 :: u86 :: u87 :: u88 :: u89 :: u90 :: u91 :: u92 :: u93 :: u94 :: u95 :: u96 :: u97 :: u98 :: u99 :: u100 :: u101 :: u102 :: u103 :: u104 :: u105 :: u106 :: u107 :: u108 :: u109 :: u110 :: u111 :: u112 :: u113 :: u114 :: u115 :: u116 :: u117 :: u118 :: u119 :: u120 :: u121 :: u122 :: u123 :: u124 :: u125 :: u126 :: u127 :: u128 :: u129 :: u130 :: u131 :: u132 :: u133 :: u134 :: u135 :: u136 :: u137 :: u138 :: u139 :: u140 :: u141 :: u142 :: u143 :: u144 :: u145 :: u146 :: u147 :: u148 :: u149 :: u150 :: u151 :: u152 :: u153 :: u154 :: u155 :: u156 :: u157 :: u158 :: u159 :: u160 :: u161 :: u162 :: u163 :: u164 :: u165 :: u166 :: u167 :: u168 :: u169 :: u170 :: u171 :: u172 :: u173 :: u174 :: u175 :: u176 :: u177 :: u178 :: u179 :: u180 :: u181 :: u182 :: u183 :: u184 :: u185 :: u186 :: u187 :: u188 :: u189 :: u190 :: u191 :: u192 :: []), []⟩ w := by
  have HK := Lib.hid hK
  clear hK
  have hai : (a : Int) < (n : Int) := by omega
  have ha0 : (0 : Int) ≤ (a : Int) := by omega
  have hbi : (b : Int) < (n : Int) := by omega
  have hb0 : (0 : Int) ≤ (b : Int) := by omega
  have c1 : w.cell? ⟨k.W, 1, none⟩ = some (.slice (some ⟨k.gw, 0, none⟩) n n) := H.out.blk.cell 1
  have c2 : w.cell? ⟨k.W, 2, none⟩ = some (.slice (some ⟨k.gl, 0, none⟩) n n) := H.out.blk.cell 2
  obtain ⟨r1, g1⟩ := int_cell H.out.lo HOK.out.ll han
  obtain ⟨r2, g2⟩ := int_cell H.out.lo HOK.out.ll hbn
  obtain ⟨r3, g3⟩ := int_cell H.out.wh HOK.out.wl hbn
  obtain ⟨r4, g4⟩ := int_cell H.out.wh HOK.out.wl han
  simp only [wk13, wkMid, wkTail, wkRound, wkLoop, dBody, dFst, dSnd, dArm, dThen, Tryz.f98]
  have c5 : w.cell? ⟨k.W, 5, none⟩ = some vE := H.out.blk.cell 5
  have HN : Hid (∀ o, WkAt w0 n k vE vJ s (w.alloc o)) := fun o => H.out.moved (Ext.alloc _ _)
  have hcase : ∃ x y : Int, DF.ek a b = (x, y) ∧ (if (b : Int) < (a : Int) then (b : Int) else (a : Int)) = x ∧ (if (a : Int) < (b : Int) then (b : Int) else (a : Int)) = y ∧ ((x = a ∧ y = b ∧ (a : Int) ≤ b) ∨ (x = b ∧ y = a ∧ (b : Int) < a)) := by
    by_cases h : (b : Int) < a
    · refine ⟨b, a, ?_, if_pos h, if_neg (by omega), .inr ⟨rfl, rfl, h⟩⟩
      unfold DF.ek; rw [Nat.min_eq_right (by omega), Nat.max_eq_left (by omega)]
    · refine ⟨a, b, ?_, if_neg h, ?_, .inl ⟨rfl, rfl, by omega⟩⟩
      · unfold DF.ek; rw [Nat.min_eq_left (by omega), Nat.max_eq_right (by omega)]
      · split <;> omega
  obtain ⟨x, y, hxy, _, _, hc⟩ := hcase
  rw [hxy] at HK
  rcases hc with ⟨rfl, rfl, hab⟩ | ⟨rfl, rfl, hab⟩
  all_goals
    by_cases hab2 : (a : Int) < (b : Int)
    all_goals
      first
      | (exfalso; omega)
      | skip
  all_goals
    go_wp2_with (at_builtin; refine wpList_pushS _ rfl (.tmp 137) (.tmp 145) 28 rfl 49 _ 2 16 Tryz.underlying28 infoEdge rfl (by decide) _ _ _ rfl (HN.out _).ed ⟨by omega, by omega⟩ _ w.heap.size rfl rfl (news_cells rfl _ _) (by simp [Value.oneCell']) ?_; intro g5 cc5 w5 ho5 hc5 hat5 _; obtain ⟨hB5, hW5⟩ := (HN.out _).pushE (x := (_, _)) ho5 hc5 hat5; have HW5 := Lib.hid hW5; have q5 : w5.cell? ⟨k.W, 5, none⟩ = some vE := hB5.cell 5; have f5 := hB5.frozen 5; clear ho5 hc5 hat5 hB5 hW5)
    refine HK.out _ _ _ _ _ _ _ _ _ _ _ _ _ _ _ _ (.slice (some ⟨g5, 0, none⟩) (s.ed.length + 1) cc5) _ ?_
    have h := HW5.out
    first | exact h | (rw [Int.min_eq_left (by omega), Int.max_eq_right (by omega)] at h; exact h) | (rw [Int.min_eq_right (by omega), Int.max_eq_left (by omega)] at h; exact h)

set_option maxHeartbeats 4000000 in
set_option maxRecDepth 100000 in
theorem wk17_any {w0 w : World} {n : Nat} {k : Wkr} {vE vJ : Value} {s : DF.Wk} {a b : Nat} {jb : Bool} (han : a < n) (hbn : b < n) (hn : n ≤ 60) (H : Hid (WkAt w0 n k vE vJ s w)) (HOK : Hid (DF.Ok n s)) (HED : s.ed.length ≤ 60) (HJO : s.jo.length ≤ 60) (Q : Exit → Act → World → Prop) {u2 u3 u4 u5 u6 u7 u8 u9 u10 u11 u12 u13 u14 u15 u16 u17 u18 u19 u20 u21 u22 u23 u24 u25 u26 u27 u28 u29 u30 u31 u32 u33 u34 u35 u36 u37 u38 u39 u40 u41 u42 u43 u44 u45 u46 u47 u48 u49 u50 u51 u52 u53 u54 u55 u56 u57 u58 u59 u60 u61 u62 u63 u64 u65 u66 u67 u68 u69 u70 u71 u72 u73 u74 u75 u76 u77 u78 u79 u80 u81 u82 u83 u84 u85 u86 u87 u88 u89 u90 u91 u92 u93 u94 u95 u96 u97 u98 u99 u100 u101 u102 u103 u104 u105 u106 u107 u108 u109 u110 u111 u112 u113 u114 u115 u116 u117 u118 u119 u120 u121 u122 u123 u124 u125 u126 u127 u128 u129 u130 u131 u132 u133 u134 u135 u136 u137 u138 u139 u140 u141 u142 u143 u144 u145 u146 u147 u148 u149 u150 u151 u152 u153 u154 u155 u156 u157 u158 u159 u160 u161 u162 u163 u164 u165 u166 u167 u168 u169 u170 u171 u172 u173 u174 u175 u176 u177 u178 u179 u180 u181 u182 u183 u184 u185 u186 u187 u188 u189 u190 u191 u192 : Value}
    (hK : ∀ (v183 v184 v185 v186 v187 v188 v189 v190 v191 v192 : Value), ∀ (vJ' : Value) (w' : World), WkAt w0 n k vE vJ' { s with jo := s.jo ++ [a] } w' → Q .normal ⟨List.toArray (.pointer (some ⟨k.W, 0, none⟩) :: .int .i64 (a : Int) :: u2 :: u3 :: u4 :: u5 :: u6 :: u7 :: u8 :: u9 :: u10 :: u11 :: u12 :: u13 :: u14 :: u15 :: u16 :: u17 :: u18 :: u19 :: u20 :: u21 :: u22 :: u23 :: u24 :: u25 :: u26 :: u27 :: u28 :: u29 :: u30 :: u31 :: u32 :: u33 :: u34 :: u35 :: u36 :: u37 :: u38 :: u39 :: u40 :: u41 :: u42 :: u43 :: u44 :: u45 :: u46 :: u47 :: u48 :: u49 :: u50 :: u51 :: u52 :: u53 :: u54 :: u55 :: u56 :: u57 :: u58 :: u59 :: u60 :: u61 :: u62 :: u63 :: u64 :: u65 :: u66 :: u67 :: u68 :: u69 :: u70 :: u71 :: u72 :: u73 :: u74 :: u75 :: u76 :: u77 :: u78 :: u79 :: u80 :: u81 :: u82 :: u83 :: u84 :: u85 :: u86 :: u87 :: u88 :: u89 :: u90 :: u91 :: u92 :: u93 :: u94 :: u95 :: u96 :: u97 :: u98 :: u99 :: u100 :: u101 :: u102 :: u103 :: u104 :: u105 :: u106 :: u107 :: u108 :: u109 :: u110 :: u111 :: u112 :: u113 :: u114 :: u115 :: u116 :: u117 :: u118 :: u119 :: u120 :: u121 :: u122 :: u123 :: u124 :: u125 :: u126 :: u127 :: u128 :: u129 :: u130 :: u131 :: u132 :: u133 :: u134 :: u135 :: u136 :: u137 :: u138 :: u139 :: u140 :: u141 :: u142 :: u143 :: u144 :: u145 :: u146 :: u147 :: u148 :: u149 :: u150 :: u151 :: u152 :: u153 :: u154 :: u155 :: u156 :: u157 :: u158 :: u159 :: u160 :: u161 :: u162 :: u163 :: u164 :: u165 :: u166 :: u167 :: u168 :: u169 :: u170 :: u171 :: u172 :: u173 :: u174 :: u175 :: u176 :: u177 :: u178 :: u179 :: u180 :: u181 :: u182 :: v183 :: v184 :: v185 :: v186 :: v187 :: v188 :: v189 :: v190 :: v191 :: v192 :: []), []⟩ w') :
    Code.wp Tryz.prog wk17 Q ⟨List.toArray (.pointer (some ⟨k.W, 0, none⟩) :: .int .i64 (a : Int) :: u2 :: u3 :: u4 :: u5 :: u6 :: u7 :: u8 :: u9 :: u10 :: u11 :: u12 :: u13 :: u14 :: u15 :: u16 :: u17 :: u18 :: u19 :: u20 :: u21 :: u22 :: u23 :: u24 :: u25 :: u26 :: u27 :: u28 :: u29 :: u30 :: u31 :: u32 :: u33 :: u34 :: u35 :: u36 :: u37 :: u38 :: u39 :: u40 :: u41 :: u42 :: u43 :: u44 :: u45 :: u46 :: u47 :: u48 :: u49 :: u50 :: u51 :: u52 :: u53 :: u54 :: u55 :: u56 :: u57 :: u58 :: u59 :: u60 :: u61 :: u62 :: u63 :: u64 :: u65 :: u66 :: u67 :: u68 :: u69 :: u70 :: u71 :: u72 :: u73 :: u74 :: u75 :: u76 :: u77 :: u78 :: u79 :: u80 :: u81 :: u82 :: u83 :: u84 :: u85 :: u86 :: u87 :: u88 :: u89 :: u90 :: u91 :: u92 :: u93 :: u94 :: u95 :: u96 :: u97 :: u98 :: u99 :: u100 :: u101 :: u102 :: u103 :: u104 :: u105 :: u106 :: u107 :: u108 :: u109 :: u110 :: u111 :: u112 :: u113 :: u114 :: u115 :: u116 :: u117 :: u118 :: u119 :: u120 :: u121 :: u122 :: u123 :: u124 :: u125 :: u126 :: u127 :: u128 :: u129 :: u130 :: u131 :: u132 :: u133 :: u134 :: u135 :: u136 :: u137 :: u138 :: u139 :: u140 :: u141 :: u142 :: u143 :: u144 :: u145 :: u146 :: u147 :: u148 :: u149 :: u150 :: u151 :: u152 :: u153 :: u154 :: u155 :: u156 :: u157 :: u158 :: u159 :: u160 :: u161 :: u162 :: u163 :: u164 :: u165 :: u166 :: u167 :: u168 :: u169 :: u170 :: u171 :: u172 :: u173 :: u174 :: u175 :: u176 :: u177 :: u178 :: u179 :: u180 :: u181 :: u182 :: u183 :: u184 :: u185 :: u186 :: u187 :: u188 :: u189 :: u190 :: u191 :: u192 :: []), []⟩ w := by
  have HK := Lib.hid hK
  clear hK
  have hai : (a : Int) < (n : Int) := by omega
  have ha0 : (0 : Int) ≤ (a : Int) := by omega
  have hbi : (b : Int) < (n : Int) := by omega
  have hb0 : (0 : Int) ≤ (b : Int) := by omega
  have c1 : w.cell? ⟨k.W, 1, none⟩ = some (.slice (some ⟨k.gw, 0, none⟩) n n) := H.out.blk.cell 1
  have c2 : w.cell? ⟨k.W, 2, none⟩ = some (.slice (some ⟨k.gl, 0, none⟩) n n) := H.out.blk.cell 2
  obtain ⟨r1, g1⟩ := int_cell H.out.lo HOK.out.ll han
  obtain ⟨r2, g2⟩ := int_cell H.out.lo HOK.out.ll hbn
  obtain ⟨r3, g3⟩ := int_cell H.out.wh HOK.out.wl hbn
  obtain ⟨r4, g4⟩ := int_cell H.out.wh HOK.out.wl han
  simp only [wk17, dBody, dSnd, dThen, Tryz.f98]
  have c6 : w.cell? ⟨k.W, 6, none⟩ = some vJ := H.out.blk.cell 6
  have HN : Hid (∀ o, WkAt w0 n k vE vJ s (w.alloc o)) := fun o => H.out.moved (Ext.alloc _ _)
  go_wp2_with (at_builtin; refine wpList_push _ rfl (.tmp 187) (.tmp 189) 23 rfl 3 (.int .i64 0) 8 Tryz.underlying23 infoI rfl _ _ _ rfl (HN.out _).jo ⟨by omega, by omega⟩ (.int .i64 (a : Int)) w.heap.size rfl (cell_new1 rfl _ _) rfl ?_; intro g5 cc5 w5 ho5 hc5 hat5 _; obtain ⟨hB5, hW5⟩ := (HN.out _).pushJ ho5 hc5 hat5; have HW5 := Lib.hid hW5; have q5 : w5.cell? ⟨k.W, 6, none⟩ = some vJ := hB5.cell 6; have f5 := hB5.frozen 6; clear ho5 hc5 hat5 hB5 hW5)
  exact HK.out _ _ _ _ _ _ _ _ _ _ _ _ HW5.out

end Go.Proofs.YthgniehfejklhaaGreat
