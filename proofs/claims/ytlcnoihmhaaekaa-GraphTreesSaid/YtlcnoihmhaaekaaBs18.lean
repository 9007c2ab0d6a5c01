/-
  The references' rows of edges: Of, Place. Condition: the edges lie in memory as 'EdsAt' says.
  Rows of integers of one's own; edges that may be, as they lie. No conditions.
-/
import Derived.Test.YtlcnoihmhaaekaaBs17
import Derived.Test.YtlcnoihmhaaekaaEb
import Derived.Test.YtlcnoihmhaaekaaInts
import Derived.Test.YtlcnoihmhaaekaaBs12
namespace Go.Proofs.Ytlcnoihmhaaekaa
open Go Go.RowKit Go.ChangeShapes Go.WideShapes
set_option linter.unusedVariables false

namespace RF
def place : List AK.Ed → AK.Ed → Option Nat
  | [], _ => none
  | y :: r, x => if y = x then some 0 else (place r x).map (· + 1)
def placeV : Option Nat → Int
  | none => -1
  | some i => (i : Int)
theorem place_some {x : AK.Ed} : ∀ {l : List AK.Ed} {i : Nat}, l[i]? = some x → (∀ j, j < i → l[j]? ≠ some x) → place l x = some i
  | [], i, h, _ => by simp at h
  | y :: r, 0, h, _ => by simp at h; simp [place, h]
  | y :: r, i + 1, h, hn => by
    have h0 := hn 0 (by omega)
    simp at h0 h
    rw [place, if_neg h0, place_some h (fun j hj => by have := hn (j + 1) (by omega); simpa using this)]; rfl
theorem place_none {x : AK.Ed} : ∀ {l : List AK.Ed}, (∀ j, j < l.length → l[j]? ≠ some x) → place l x = none
  | [], _ => rfl
  | y :: r, hn => by
    have h0 := hn 0 (by simp)
    simp at h0
    rw [place, if_neg h0, place_none (fun j hj => by have := hn (j + 1) (by simp; omega); simpa using this)]; rfl
theorem place_get {x : AK.Ed} : ∀ {l : List AK.Ed} {i : Nat}, place l x = some i → l[i]? = some x
  | [], i, h => by simp [place] at h
  | y :: r, i, h => by
    rw [place] at h
    split at h
    · injection h with h; subst h; rename_i e; simp [e]
    · cases hp : place r x with
      | none => rw [hp] at h; simp at h
      | some j => rw [hp] at h; simp at h; subst h; simpa using place_get hp
theorem place_mem {x : AK.Ed} : ∀ {l : List AK.Ed}, place l x = none ↔ x ∉ l
  | [] => by simp [place]
  | y :: r => by
    rw [place]
    split
    · rename_i e; simp [e]
    · rename_i e
      rw [Option.map_eq_none_iff, place_mem]
      simp [Ne.symm e]
end RF

def EdsAt (w : World) (A : Option Addr) (l : List AK.Ed) : Prop := l = [] ∨ ∃ b off, A = some ⟨b, off, none⟩ ∧ b < w.heap.size ∧ ∀ (i : Nat) (x : AK.Ed), l[i]? = some x → w.cell? ⟨b, off + i * 2, none⟩ = some (.int .i64 x.1) ∧ w.cell? ⟨b, off + i * 2 + 1, none⟩ = some (.int .i64 x.2)
theorem EdsAt.chg {S : Nat → Prop} {w w' : World} {A : Option Addr} {l : List AK.Ed} (h : EdsAt w A l) (hc : Chg S w w') (hn : l ≠ [] → ∀ x, A = some x → ¬ S x.block) : EdsAt w' A l := by
  by_cases h0 : l = []
  · exact .inl h0
  rcases h with h | ⟨b, off, rfl, hb, he⟩
  · exact absurd h h0
  · have hs : ¬ S b := hn h0 _ rfl
    exact .inr ⟨b, off, rfl, Nat.lt_of_lt_of_le hb hc.size, fun i e h => ⟨(hc.cell (p := ⟨b, _, none⟩) hb hs).trans (he i e h).1, (hc.cell (p := ⟨b, _, none⟩) hb hs).trans (he i e h).2⟩⟩
theorem EdsAt.ext {w w' : World} {A : Option Addr} {l : List AK.Ed} (h : EdsAt w A l) (hb : Below w.heap.size w w') : EdsAt w' A l := by
  rcases h with h | ⟨b, off, rfl, hl, he⟩
  · exact .inl h
  · exact EdsAt.chg (.inr ⟨b, off, rfl, hl, he⟩) (Chg.of_below hb) (by rintro _ x hx; injection hx with hx; subst hx; simp only; omega)
def edC (x : AK.Ed) : List Value := [.int .i64 x.1, .int .i64 x.2]
theorem edC_len (x : AK.Ed) : (edC x).length = 2 := rfl
theorem infoEdge : (Try.prog.info? 38).map (fun i => (i.zero, i.size, i.bytes)) = some (some (.agg #[.int .i64 0, .int .i64 0]), 2, 16) := by kernel_rfl
/-- A row of edges of one's own. -/
def DRow (w : World) (v : Value) (l : List AK.Ed) : Prop := w.ownsRow 0 38 2 v l.length (rowsOf edC l)
theorem edC_one {l : List AK.Ed} : ∀ u ∈ rowsOf edC l, u.oneCell' = true := by
  intro u hu
  unfold rowsOf at hu
  rw [List.mem_flatMap] at hu
  obtain ⟨e, _, h⟩ := hu
  simp [edC] at h
  rcases h with rfl | rfl <;> rfl
theorem DRow.eds {w : World} {A : Option Addr} {n c : Nat} {l : List AK.Ed} (h : DRow w (.slice A n c) l) (hn : l.length = n) : EdsAt w A l ∧ n ≤ c := by
  unfold DRow at h
  rw [hn] at h
  rcases Nat.eq_zero_or_pos n with h0 | h0
  · exact ⟨.inl (List.eq_nil_of_length_eq_zero (by omega)), by omega⟩
  obtain ⟨g, cap, hv, hc, _⟩ := own_form h h0
  simp only [Value.slice.injEq, true_and] at hv
  obtain ⟨rfl, rfl⟩ := hv
  refine ⟨.inr ⟨g, 0, rfl, own_lt h (by simp [Value.ownBlock]), fun i x hx => ?_⟩, hc⟩
  have hi : i < n := by have := (List.getElem?_eq_some_iff.1 hx).1; omega
  have key : ∀ j v, (edC x)[j]? = some v → w.cell? ⟨g, i * 2 + j, none⟩ = some v := fun j v hv => by
    have hj : j < 2 := (List.getElem?_eq_some_iff.1 hv).1
    rw [World.ownsRow.cellAt h (i * 2 + j) (by omega)]
    exact rowsOf_get (f := edC) (S := 2) (fun a _ => edC_len a) hx hv
  refine ⟨?_, ?_⟩
  · have := key 0 _ rfl; simpa using this
  · have := key 1 _ rfl; simpa [Nat.add_assoc] using this
/-- The cells of edges from a place on. -/
theorem EdsAt.cells {w : World} {b off : Nat} {l : List AK.Ed} (he : ∀ (i : Nat) (x : AK.Ed), l[i]? = some x → w.cell? ⟨b, off + i * 2, none⟩ = some (.int .i64 x.1) ∧ w.cell? ⟨b, off + i * 2 + 1, none⟩ = some (.int .i64 x.2)) (k d : Nat) : ∀ j u, (rowsOf edC ((l.drop k).take d))[j]? = some u → w.cell? ((⟨b, off + k * 2, none⟩ : Addr).add j) = some u := by
  intro j u hj
  rw [Addr.add_mid]
  have hlt := (List.getElem?_eq_some_iff.1 hj).1
  rw [rowsOf_len (f := edC) (S := 2) (fun a _ => edC_len a)] at hlt
  have hi : j / 2 < ((l.drop k).take d).length := by omega
  obtain ⟨e, hee⟩ : ∃ e, ((l.drop k).take d)[j / 2]? = some e := ⟨_, List.getElem?_eq_getElem hi⟩
  have hee' : l[k + j / 2]? = some e := by
    rw [List.getElem?_take] at hee
    split at hee
    · rwa [List.getElem?_drop] at hee
    · cases hee
  obtain ⟨h0, h1⟩ := he _ _ hee'
  have hm : j = j / 2 * 2 + j % 2 := by omega
  have key : ∀ v, (edC e)[j % 2]? = some v → u = v := fun v hv => by
    have := rowsOf_get (f := edC) (S := 2) (fun a _ => edC_len a) hee hv
    rw [← hm, hj] at this
    exact Option.some.inj this
  have hr : j % 2 = 0 ∨ j % 2 = 1 := by omega
  rcases hr with hr | hr
  · rw [key (.int .i64 e.1) (by rw [hr]; rfl), ← h0]; congr 2; omega
  · rw [key (.int .i64 e.2) (by rw [hr]; rfl), ← h1]; congr 2; omega

set_option maxHeartbeats 400000 in
theorem rof_any (w : World) (a b : Int) :
    Calls Try.prog 22 #[.int .i64 a, .int .i64 b] w fun e w' => e = .returned (edV (AK.ek a b)) ∧ Below w.heap.size w w' := by
  by_cases h : a < b
  · go_enter Try.func22, Try.ntmps22
    go_wp2
    exact bodyPost_ret (v := .agg #[.int .i64 a, .int .i64 b]) (by simp [results, Try.results22, go_sem]) rfl ⟨ed_ret (by omega) (by omega), (Below.refl _ _).alloc (Nat.le_refl _) _⟩
  · go_enter Try.func22, Try.ntmps22
    go_wp2
    exact bodyPost_ret (v := .agg #[.int .i64 b, .int .i64 a]) (by simp [results, Try.results22, go_sem]) rfl ⟨ed_ret (by omega) (by omega), (Below.refl _ _).alloc (Nat.le_refl _) _⟩
set_option maxHeartbeats 1000000 in
theorem place_any (w : World) (A : Option Addr) (n c : Nat) (l : List AK.Ed) (a b : Int) (hl : l.length = n) (hn : n ≤ 1000000) (h : EdsAt w A l) :
    Calls Try.prog 21 #[.slice A n c, .int .i64 a, .int .i64 b] w fun e w' => e = .returned (.int .i64 (RF.placeV (RF.place l (AK.ek a b)))) ∧ Below w.heap.size w w' := by
  have H := Lib.hid h
  have HL := Lib.hid hl
  clear h hl
  go_enter Try.func21, Try.ntmps21
  go_wp2_with fail
  refine (rof_any w a b).mono ?_
  rintro e w1 ⟨rfl, hb1⟩
  have hS := hb1.size
  have BL : Hid (Blk (w1.alloc (.cells #[.int .i64 (AK.ek a b).1, .int .i64 (AK.ek a b).2] 38)) w1.heap.size 38 #[.int .i64 (AK.ek a b).1, .int .i64 (AK.ek a b).2]) := Blk.new _ _ _
  have B1 : Hid (Below w.heap.size w (w1.alloc (.cells #[.int .i64 (AK.ek a b).1, .int .i64 (AK.ek a b).2] 38))) := hb1.alloc hS _
  obtain ⟨x, hx⟩ : ∃ x, x = AK.ek a b := ⟨_, rfl⟩
  rw [← hx] at BL B1 ⊢
  obtain ⟨x1, x2⟩ := x
  have HXX := Lib.hid hx
  clear hx hb1
  go_wp2
  go_loopw [8] (fun v wr => ∃ k : Nat, k ≤ n ∧ v = .int .i64 k ∧ Hid ((∀ j, j < k → l[j]? ≠ some (x1, x2)) ∧ Blk wr w1.heap.size 38 #[.int .i64 x1, .int .i64 x2] ∧ Below w.heap.size w wr)) (fun v _ => n - (intOf v).toNat)
  case atStart => exact ⟨0, by omega, rfl, fun j hj => absurd hj (Nat.not_lt_zero _), BL.out, B1.out⟩
  case round =>
    obtain ⟨k, hk, rfl, HR⟩ := hrel
    by_cases hlt : k < n
    · obtain ⟨y, hy⟩ : ∃ y, l[k]? = some y := ⟨_, List.getElem?_eq_getElem (by have := HL.out; omega)⟩
      rcases (H.out.ext (HR.out.2.2)) with h0 | ⟨bb, off, rfl, hbl, hev⟩
      · rw [h0] at hy; simp at hy
      obtain ⟨e1, e2⟩ := hev k y hy
      obtain ⟨y1, y2⟩ := y
      simp only at e1 e2
      have HY := Lib.hid hy
      have f0 : wr.cell? ⟨w1.heap.size, 0, none⟩ = some (.int .i64 x1) := HR.out.2.1.cell 0
      have f1 : wr.cell? ⟨w1.heap.size, 1, none⟩ = some (.int .i64 x2) := HR.out.2.1.cell 1
      have z0 : (0 : Int) ≤ (k : Int) := by omega
      have z1 : (k : Int) < (n : Int) := by omega
      clear hev hy
      by_cases q1 : y1 = x1
      · have q1' : (y1 == x1) = true := by simpa using q1
        have Q1 := Lib.hid q1
        clear q1
        by_cases q2 : y2 = x2
        · have q2' : (y2 == x2) = true := by simpa using q2
          have HF : Hid (RF.placeV (RF.place l (x1, x2)) = (k : Int)) := by unfold Hid; rw [RF.place_some (i := k) (by rw [HY.out, Q1.out, q2]) HR.out.1]; rfl
          clear q2
          go_wp2
          go_quiet (fail)
          go_wp2
          go_ret
          exact ⟨by rw [← HXX.out, HF.out]; rfl, below_drewN' HR.out.2.2 _⟩
        · have q2' : (y2 == x2) = false := by simpa using q2
          have HN : Hid (∀ j, j < k + 1 → l[j]? ≠ some (x1, x2)) := fun j hj => by
            by_cases e : j = k
            · subst e; rw [HY.out]; intro h; injection h with h; exact q2 (Prod.mk.inj h).2
            · exact HR.out.1 j (by omega)
          clear q2
          go_wp2
          go_quiet (fail)
          go_wp2
          go_roundw
          case rel => exact ⟨k + 1, by omega, by go_num, HN.out, HR.out.2.1.drewN _, below_drewN' HR.out.2.2 _⟩
          case measure => simp [intOf]; omega
      · have q1' : (y1 == x1) = false := by simpa using q1
        have HN : Hid (∀ j, j < k + 1 → l[j]? ≠ some (x1, x2)) := fun j hj => by
          by_cases e : j = k
          · subst e; rw [HY.out]; intro h; injection h with h; exact q1 (Prod.mk.inj h).1
          · exact HR.out.1 j (by omega)
        clear q1
        go_wp2
        go_quiet (fail)
        go_wp2
        go_roundw
        case rel => exact ⟨k + 1, by omega, by go_num, HN.out, HR.out.2.1.drewN _, below_drewN' HR.out.2.2 _⟩
        case measure => simp [intOf]; omega
    · have HF : Hid (RF.placeV (RF.place l (x1, x2)) = -1) := by unfold Hid; rw [RF.place_none (fun j hj => HR.out.1 j (by have := HL.out; omega))]; rfl
      go_wp2
      go_ret
      exact ⟨by rw [← HXX.out, HF.out]; rfl, HR.out.2.2⟩
end Go.Proofs.Ytlcnoihmhaaekaa
namespace Go.Proofs.Ytlcnoihmhaaekaa
open Go Go.RowKit
set_option linter.unusedVariables false

theorem infoI : (Try.prog.info? 3).map (fun i => (i.zero, i.size, i.bytes)) = some (some (.int .i64 0), 1, 8) := by kernel_rfl
def intsV (d : List Int) : List Value := d.map (Value.int .i64)
/-- Edges that may be. -/
def Fine (n : Nat) (l : List AK.Ed) : Prop := l.length ≤ 200 ∧ ∀ (i : Nat) (x : AK.Ed), l[i]? = some x → 0 ≤ x.1 ∧ x.1 < x.2 ∧ x.2 < n
structure DRw (w : World) (n gd c : Nat) (d : List Int) (wr : World) : Prop where
  row : wr.ownsRow 0 3 1 (.slice (some ⟨gd, 0, none⟩) n c) n (intsV d)
  ext : Ext w wr
  new : w.heap.size ≤ gd
theorem DRw.cell {w wr : World} {n gd c v : Nat} {d : List Int} (h : DRw w n gd c d wr) (hd : d.length = n) (hv : v < n) : wr.cell? ⟨gd, v, none⟩ = some (.int .i64 (PD.g d v)) ∧ wr.frozen? ⟨gd, v, none⟩ = false := by
  refine ⟨?_, h.row.frozenAt _⟩
  rw [h.row.cellAt v (by omega), intsV, List.getElem?_map, List.getElem?_eq_getElem (by omega)]
  simp [PD.g, List.getD_eq_getElem?_getD, List.getElem?_eq_getElem (show v < d.length by omega)]
theorem DRw.set {w wr : World} {n gd c : Nat} {d : List Int} (h : DRw w n gd c d wr) (v : Nat) (x : Int) : DRw w n gd c (d.set v x) (wr.setCell ⟨gd, v, none⟩ (.int .i64 x)) := by
  refine ⟨?_, (((Chg.of_below h.ext).setCell (p := ⟨gd, v, none⟩) (fun _ => h.new) _)).below (Nat.le_refl _) (fun _ _ h => h), h.new⟩
  have := (h.row.stored v (.int .i64 x)).1
  rw [intsV, List.map_set]
  exact this
theorem DRw.moved {w wr w' : World} {n gd c : Nat} {d : List Int} (h : DRw w n gd c d wr) (hx : Ext wr w') : DRw w n gd c d w' :=
  ⟨own_chg h.row (Chg.of_below hx) (fun k hk => by have := own_lt h.row hk; omega), Ext.trans h.ext hx, h.new⟩
theorem edge_at {w : World} {A : Option Addr} {l : List AK.Ed} {n m i : Nat} (h : EdsAt w A l) (hl : l.length = m) (hf : Fine n l) (him : i < m) : ∃ bs off, A = some ⟨bs, off, none⟩ ∧ bs < w.heap.size ∧ ∃ u v : Nat, l[i]? = some ((u : Int), (v : Int)) ∧ u < v ∧ v < n ∧ w.cell? ⟨bs, off + i * 2, none⟩ = some (.int .i64 u) ∧ w.cell? ⟨bs, off + i * 2 + 1, none⟩ = some (.int .i64 v) := by
  obtain ⟨x, hx⟩ : ∃ x, l[i]? = some x := ⟨_, List.getElem?_eq_getElem (by omega)⟩
  rcases h with h | ⟨b, off, rfl, hb, hc⟩
  · rw [h] at hx; simp at hx
  · obtain ⟨h1, h2, h3⟩ := hf.2 i x hx
    obtain ⟨u, hu⟩ := Int.eq_ofNat_of_zero_le h1
    obtain ⟨v, hv⟩ := Int.eq_ofNat_of_zero_le (show 0 ≤ x.2 by omega)
    have := hc i x hx
    rw [hu, hv] at this
    exact ⟨b, off, rfl, hb, u, v, by rw [hx, ← hu, ← hv], by omega, by omega, this.1, this.2⟩
/-- Rows of nodes beside are those of edges. -/
def BesOf (n : Nat) (l : List AK.Ed) (N : Nat → List Nat) : Prop := ∀ v, v < n → ∀ x, x ∈ N v ↔ (x < n ∧ PD.adj l v x)
def FarPost (w : World) (n : Nat) (l : List AK.Ed) (a : Nat) (e : Ending) (w' : World) : Prop := ∃ gd c d, e = .returned (.slice (some ⟨gd, 0, none⟩) n c) ∧ PD.IsDist n l a d ∧ DRw w n gd c d w'
end Go.Proofs.Ytlcnoihmhaaekaa
