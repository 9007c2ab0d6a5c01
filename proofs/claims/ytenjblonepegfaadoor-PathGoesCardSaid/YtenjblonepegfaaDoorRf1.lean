/-
  The references' rows of edges: NodesFault, Of, Place, Out. Condition: the edges lie in memory as 'EdsAt' says.
-/
import Derived.Test.YtenjblonepegfaaDoorAs7
namespace Go.Proofs.YtenjblonepegfaaDoor
open Go Go.RowKit Go.ChangeShapes Go.WideShapes
set_option linter.unusedVariables false

namespace RF
def place : List AK.Ed → AK.Ed → Option Nat
  | [], _ => none
  | y :: r, x => if y = x then some 0 else (place r x).map (· + 1)
def placeV : Option Nat → Int
  | none => -1
  | some i => (i : Int)
theorem place_some {x : AK.Ed} : ∀ {l : List AK.Ed} {i : Nat}, l[i]? = some x → (∀ j, j < i → l[j]? ≠ some x) → place l x = some i
  | [], i, h, _ => by simp at h
  | y :: r, 0, h, _ => by simp at h; simp [place, h]
  | y :: r, i + 1, h, hn => by
    have h0 := hn 0 (by omega)
    simp at h0 h
    rw [place, if_neg h0, place_some h (fun j hj => by have := hn (j + 1) (by omega); simpa using this)]; rfl
theorem place_none {x : AK.Ed} : ∀ {l : List AK.Ed}, (∀ j, j < l.length → l[j]? ≠ some x) → place l x = none
  | [], _ => rfl
  | y :: r, hn => by
    have h0 := hn 0 (by simp)
    simp at h0
    rw [place, if_neg h0, place_none (fun j hj => by have := hn (j + 1) (by simp; omega); simpa using this)]; rfl
theorem place_get {x : AK.Ed} : ∀ {l : List AK.Ed} {i : Nat}, place l x = some i → l[i]? = some x
  | [], i, h => by simp [place] at h
  | y :: r, i, h => by
    rw [place] at h
    split at h
    · injection h with h; subst h; rename_i e; simp [e]
    · cases hp : place r x with
      | none => rw [hp] at h; simp at h
      | some j => rw [hp] at h; simp at h; subst h; simpa using place_get hp
theorem place_mem {x : AK.Ed} : ∀ {l : List AK.Ed}, place l x = none ↔ x ∉ l
  | [] => by simp [place]
  | y :: r => by
    rw [place]
    split
    · rename_i e; simp [e]
    · rename_i e
      rw [Option.map_eq_none_iff, place_mem]
      simp [Ne.symm e]
end RF

def EdsAt (w : World) (A : Option Addr) (l : List AK.Ed) : Prop := l = [] ∨ ∃ b off, A = some ⟨b, off, none⟩ ∧ b < w.heap.size ∧ ∀ (i : Nat) (x : AK.Ed), l[i]? = some x → w.cell? ⟨b, off + i * 2, none⟩ = some (.int .i64 x.1) ∧ w.cell? ⟨b, off + i * 2 + 1, none⟩ = some (.int .i64 x.2)
theorem EdsAt.chg {S : Nat → Prop} {w w' : World} {A : Option Addr} {l : List AK.Ed} (h : EdsAt w A l) (hc : Chg S w w') (hn : l ≠ [] → ∀ x, A = some x → ¬ S x.block) : EdsAt w' A l := by
  by_cases h0 : l = []
  · exact .inl h0
  rcases h with h | ⟨b, off, rfl, hb, he⟩
  · exact absurd h h0
  · have hs : ¬ S b := hn h0 _ rfl
    exact .inr ⟨b, off, rfl, Nat.lt_of_lt_of_le hb hc.size, fun i e h => ⟨(hc.cell (p := ⟨b, _, none⟩) hb hs).trans (he i e h).1, (hc.cell (p := ⟨b, _, none⟩) hb hs).trans (he i e h).2⟩⟩
theorem EdsAt.ext {w w' : World} {A : Option Addr} {l : List AK.Ed} (h : EdsAt w A l) (hb : Below w.heap.size w w') : EdsAt w' A l := by
  rcases h with h | ⟨b, off, rfl, hl, he⟩
  · exact .inl h
  · exact EdsAt.chg (.inr ⟨b, off, rfl, hl, he⟩) (Chg.of_below hb) (by rintro _ x hx; injection hx with hx; subst hx; simp only; omega)
def edC (x : AK.Ed) : List Value := [.int .i64 x.1, .int .i64 x.2]
theorem edC_len (x : AK.Ed) : (edC x).length = 2 := rfl
theorem infoEdge : (Tryd.prog.info? 100).map (fun i => (i.zero, i.size, i.bytes)) = some (some (.agg #[.int .i64 0, .int .i64 0]), 2, 16) := by kernel_rfl
/-- A row of edges of one's own. -/
def DRow (w : World) (v : Value) (l : List AK.Ed) : Prop := w.ownsRow 0 100 2 v l.length (rowsOf edC l)
theorem edC_one {l : List AK.Ed} : ∀ u ∈ rowsOf edC l, u.oneCell' = true := by
  intro u hu
  unfold rowsOf at hu
  rw [List.mem_flatMap] at hu
  obtain ⟨e, _, h⟩ := hu
  simp [edC] at h
  rcases h with rfl | rfl <;> rfl
theorem DRow.eds {w : World} {A : Option Addr} {n c : Nat} {l : List AK.Ed} (h : DRow w (.slice A n c) l) (hn : l.length = n) : EdsAt w A l ∧ n ≤ c := by
  unfold DRow at h
  rw [hn] at h
  rcases Nat.eq_zero_or_pos n with h0 | h0
  · exact ⟨.inl (List.eq_nil_of_length_eq_zero (by omega)), by omega⟩
  obtain ⟨g, cap, hv, hc, _⟩ := own_form h h0
  simp only [Value.slice.injEq, true_and] at hv
  obtain ⟨rfl, rfl⟩ := hv
  refine ⟨.inr ⟨g, 0, rfl, own_lt h (by simp [Value.ownBlock]), fun i x hx => ?_⟩, hc⟩
  have hi : i < n := by have := (List.getElem?_eq_some_iff.1 hx).1; omega
  have key : ∀ j v, (edC x)[j]? = some v → w.cell? ⟨g, i * 2 + j, none⟩ = some v := fun j v hv => by
    have hj : j < 2 := (List.getElem?_eq_some_iff.1 hv).1
    rw [World.ownsRow.cellAt h (i * 2 + j) (by omega)]
    exact rowsOf_get (f := edC) (S := 2) (fun a _ => edC_len a) hx hv
  refine ⟨?_, ?_⟩
  · have := key 0 _ rfl; simpa using this
  · have := key 1 _ rfl; simpa [Nat.add_assoc] using this
/-- The cells of edges from a place on. -/
theorem EdsAt.cells {w : World} {b off : Nat} {l : List AK.Ed} (he : ∀ (i : Nat) (x : AK.Ed), l[i]? = some x → w.cell? ⟨b, off + i * 2, none⟩ = some (.int .i64 x.1) ∧ w.cell? ⟨b, off + i * 2 + 1, none⟩ = some (.int .i64 x.2)) (k d : Nat) : ∀ j u, (rowsOf edC ((l.drop k).take d))[j]? = some u → w.cell? ((⟨b, off + k * 2, none⟩ : Addr).add j) = some u := by
  intro j u hj
  rw [Addr.add_mid]
  have hlt := (List.getElem?_eq_some_iff.1 hj).1
  rw [rowsOf_len (f := edC) (S := 2) (fun a _ => edC_len a)] at hlt
  have hi : j / 2 < ((l.drop k).take d).length := by omega
  obtain ⟨e, hee⟩ : ∃ e, ((l.drop k).take d)[j / 2]? = some e := ⟨_, List.getElem?_eq_getElem hi⟩
  have hee' : l[k + j / 2]? = some e := by
    rw [List.getElem?_take] at hee
    split at hee
    · rwa [List.getElem?_drop] at hee
    · cases hee
  obtain ⟨h0, h1⟩ := he _ _ hee'
  have hm : j = j / 2 * 2 + j % 2 := by omega
  have key : ∀ v, (edC e)[j % 2]? = some v → u = v := fun v hv => by
    have := rowsOf_get (f := edC) (S := 2) (fun a _ => edC_len a) hee hv
    rw [← hm, hj] at this
    exact Option.some.inj this
  have hr : j % 2 = 0 ∨ j % 2 = 1 := by omega
  rcases hr with hr | hr
  · rw [key (.int .i64 e.1) (by rw [hr]; rfl), ← h0]; congr 2; omega
  · rw [key (.int .i64 e.2) (by rw [hr]; rfl), ← h1]; congr 2; omega

/-- What is wrong with a number of nodes. -/
def nodesF (n : Int) : Int := if n < 1 ∨ 60 < n then 1 else 0
set_option maxHeartbeats 400000 in
theorem nodesFault_any (w : World) (n : Int) : Calls Tryd.prog 71 #[.int .i64 n] w fun e w' => e = .returned (.int .i64 (nodesF n)) ∧ w = w' := by
  by_cases h1 : n < 1
  · have hp : Hid (1 = nodesF n) := by unfold Hid nodesF; rw [if_pos (.inl h1)]
    go_enter Tryd.func71, Tryd.ntmps71
    go_wp2
    go_ret
    exact ⟨congrArg (fun x => Ending.returned (.int .i64 x)) hp.out, rfl⟩
  by_cases h2 : 60 < n
  · have hp : Hid (1 = nodesF n) := by unfold Hid nodesF; rw [if_pos (.inr h2)]
    go_enter Tryd.func71, Tryd.ntmps71
    go_wp2
    go_ret
    exact ⟨congrArg (fun x => Ending.returned (.int .i64 x)) hp.out, rfl⟩
  · have hp : Hid (0 = nodesF n) := by unfold Hid nodesF; rw [if_neg (by omega)]
    go_enter Tryd.func71, Tryd.ntmps71
    go_wp2
    go_ret
    exact ⟨congrArg (fun x => Ending.returned (.int .i64 x)) hp.out, rfl⟩
set_option maxHeartbeats 400000 in
theorem rof_any (w : World) (a b : Int) :
    Calls Tryd.prog 73 #[.int .i64 a, .int .i64 b] w fun e w' => e = .returned (edV (AK.ek a b)) ∧ Below w.heap.size w w' := by
  by_cases h : a < b
  · go_enter Tryd.func73, Tryd.ntmps73
    go_wp2
    exact bodyPost_ret (v := .agg #[.int .i64 a, .int .i64 b]) (by simp [results, Tryd.results73, go_sem]) rfl ⟨ed_ret (by omega) (by omega), (Below.refl _ _).alloc (Nat.le_refl _) _⟩
  · go_enter Tryd.func73, Tryd.ntmps73
    go_wp2
    exact bodyPost_ret (v := .agg #[.int .i64 b, .int .i64 a]) (by simp [results, Tryd.results73, go_sem]) rfl ⟨ed_ret (by omega) (by omega), (Below.refl _ _).alloc (Nat.le_refl _) _⟩
set_option maxHeartbeats 1000000 in
theorem place_any (w : World) (A : Option Addr) (n c : Nat) (l : List AK.Ed) (a b : Int) (hl : l.length = n) (hn : n ≤ 1000000) (h : EdsAt w A l) :
    Calls Tryd.prog 51 #[.slice A n c, .int .i64 a, .int .i64 b] w fun e w' => e = .returned (.int .i64 (RF.placeV (RF.place l (AK.ek a b)))) ∧ Below w.heap.size w w' := by
  have H := Lib.hid h
  have HL := Lib.hid hl
  clear h hl
  go_enter Tryd.func51, Tryd.ntmps51
  go_wp2_with fail
  refine (rof_any w a b).mono ?_
  rintro e w1 ⟨rfl, hb1⟩
  have hS := hb1.size
  have BL : Hid (Blk (w1.alloc (.cells #[.int .i64 (AK.ek a b).1, .int .i64 (AK.ek a b).2] 100)) w1.heap.size 100 #[.int .i64 (AK.ek a b).1, .int .i64 (AK.ek a b).2]) := Blk.new _ _ _
  have B1 : Hid (Below w.heap.size w (w1.alloc (.cells #[.int .i64 (AK.ek a b).1, .int .i64 (AK.ek a b).2] 100))) := hb1.alloc hS _
  obtain ⟨x, hx⟩ : ∃ x, x = AK.ek a b := ⟨_, rfl⟩
  rw [← hx] at BL B1 ⊢
  obtain ⟨x1, x2⟩ := x
  have HXX := Lib.hid hx
  clear hx hb1
  go_wp2
  go_loopw [8] (fun v wr => ∃ k : Nat, k ≤ n ∧ v = .int .i64 k ∧ Hid ((∀ j, j < k → l[j]? ≠ some (x1, x2)) ∧ Blk wr w1.heap.size 100 #[.int .i64 x1, .int .i64 x2] ∧ Below w.heap.size w wr)) (fun v _ => n - (intOf v).toNat)
  case atStart => exact ⟨0, by omega, rfl, fun j hj => absurd hj (Nat.not_lt_zero _), BL.out, B1.out⟩
  case round =>
    obtain ⟨k, hk, rfl, HR⟩ := hrel
    by_cases hlt : k < n
    · obtain ⟨y, hy⟩ : ∃ y, l[k]? = some y := ⟨_, List.getElem?_eq_getElem (by have := HL.out; omega)⟩
      rcases (H.out.ext (HR.out.2.2)) with h0 | ⟨bb, off, rfl, hbl, hev⟩
      · rw [h0] at hy; simp at hy
      obtain ⟨e1, e2⟩ := hev k y hy
      obtain ⟨y1, y2⟩ := y
      simp only at e1 e2
      have HY := Lib.hid hy
      have f0 : wr.cell? ⟨w1.heap.size, 0, none⟩ = some (.int .i64 x1) := HR.out.2.1.cell 0
      have f1 : wr.cell? ⟨w1.heap.size, 1, none⟩ = some (.int .i64 x2) := HR.out.2.1.cell 1
      have z0 : (0 : Int) ≤ (k : Int) := by omega
      have z1 : (k : Int) < (n : Int) := by omega
      clear hev hy
      by_cases q1 : y1 = x1
      · have q1' : (y1 == x1) = true := by simpa using q1
        have Q1 := Lib.hid q1
        clear q1
        by_cases q2 : y2 = x2
        · have q2' : (y2 == x2) = true := by simpa using q2
          have HF : Hid (RF.placeV (RF.place l (x1, x2)) = (k : Int)) := by unfold Hid; rw [RF.place_some (i := k) (by rw [HY.out, Q1.out, q2]) HR.out.1]; rfl
          clear q2
          go_wp2
          go_quiet (fail)
          go_wp2
          go_ret
          exact ⟨by rw [← HXX.out, HF.out]; rfl, below_drewN' HR.out.2.2 _⟩
        · have q2' : (y2 == x2) = false := by simpa using q2
          have HN : Hid (∀ j, j < k + 1 → l[j]? ≠ some (x1, x2)) := fun j hj => by
            by_cases e : j = k
            · subst e; rw [HY.out]; intro h; injection h with h; exact q2 (Prod.mk.inj h).2
            · exact HR.out.1 j (by omega)
          clear q2
          go_wp2
          go_quiet (fail)
          go_wp2
          go_roundw
          case rel => exact ⟨k + 1, by omega, by go_num, HN.out, HR.out.2.1.drewN _, below_drewN' HR.out.2.2 _⟩
          case measure => simp [intOf]; omega
      · have q1' : (y1 == x1) = false := by simpa using q1
        have HN : Hid (∀ j, j < k + 1 → l[j]? ≠ some (x1, x2)) := fun j hj => by
          by_cases e : j = k
          · subst e; rw [HY.out]; intro h; injection h with h; exact q1 (Prod.mk.inj h).1
          · exact HR.out.1 j (by omega)
        clear q1
        go_wp2
        go_quiet (fail)
        go_wp2
        go_roundw
        case rel => exact ⟨k + 1, by omega, by go_num, HN.out, HR.out.2.1.drewN _, below_drewN' HR.out.2.2 _⟩
        case measure => simp [intOf]; omega
    · have HF : Hid (RF.placeV (RF.place l (x1, x2)) = -1) := by unfold Hid; rw [RF.place_none (fun j hj => HR.out.1 j (by have := HL.out; omega))]; rfl
      go_wp2
      go_ret
      exact ⟨by rw [← HXX.out, HF.out]; rfl, HR.out.2.2⟩
theorem EdsAt.news {w : World} {A : Option Addr} {l : List AK.Ed} (h : EdsAt w A l) (k d : Nat) : ∀ ad, A = some ad → ∀ j u, (rowsOf edC ((l.drop k).take d))[j]? = some u → w.cell? ((ad.add (k * 2)).add j) = some u := by
  rintro ad rfl j u hj
  rcases h with h | ⟨b, off, he, hb, hc⟩
  · subst h; simp [rowsOf] at hj
  · injection he with he; subst he
    have := EdsAt.cells hc k d j u hj
    rwa [Addr.add_mid (j := k * 2)]
/-- What Out leaves: a new row without the k-th. -/
def OutPost (w : World) (l : List AK.Ed) (k : Nat) (e : Ending) (w' : World) : Prop :=
  ∃ A c, e = .returned (.slice A (l.eraseIdx k).length c) ∧ DRow w' (.slice A (l.eraseIdx k).length c) (l.eraseIdx k) ∧ Below w.heap.size w w' ∧ ∀ j, (Value.slice A (l.eraseIdx k).length c).ownBlock = some j → w.heap.size ≤ j
theorem out_end {w w6 w7 : World} {A6 A7 : Option Addr} {n6 c6 n7 c7 k : Nat} {l : List AK.Ed} {v : Value} (hv : v = .slice A7 n7 c7) (hn : n7 = (l.eraseIdx k).length) (ho : w7.ownsRow 0 100 2 (.slice A7 n7 c7) n7 (rowsOf edC (l.eraseIdx k)))
    (hc6 : Chg (fun j => (Value.slice none 0 0).ownBlock = some j) w w6) (hg6 : ∀ g, (Value.slice A6 n6 c6).ownBlock = some g → (Value.slice none 0 0).ownBlock = some g ∨ g = w.heap.size)
    (hc7 : Chg (fun j => (Value.slice A6 n6 c6).ownBlock = some j) w6 w7) (hg7 : ∀ g, (Value.slice A7 n7 c7).ownBlock = some g → (Value.slice A6 n6 c6).ownBlock = some g ∨ g = w6.heap.size) : OutPost w l k (.returned v) w7 := by
  subst hv; subst hn
  have h6 : ∀ g, (Value.slice A6 n6 c6).ownBlock = some g → w.heap.size ≤ g := fun g hg => by
    rcases hg6 g hg with h | h
    · simp [Value.ownBlock] at h
    · omega
  refine ⟨A7, c7, rfl, ho, (hc6.trans hc7 (fun i hi hS => absurd (h6 i hS) (by omega))).below (Nat.le_refl _) (fun k hk hS => by simp [Value.ownBlock] at hS), fun g hg => ?_⟩
  rcases hg7 g hg with h | h
  · exact h6 g h
  · have := hc6.size; omega
set_option maxHeartbeats 1000000 in
theorem rout_any (w : World) (A : Option Addr) (n c : Nat) (l : List AK.Ed) (k : Nat) (hl : l.length = n) (hn : n ≤ 100000) (hnc : n ≤ c) (hc : c ≤ maxLen) (hk : k < n) (h : EdsAt w A l) :
    Calls Tryd.prog 72 #[.slice A n c, .int .i64 k] w (OutPost w l k) := by
  have hA : ∃ ad, A = some ad := by
    rcases h with h0 | ⟨b, off, rfl, _⟩
    · rw [h0] at hl; simp at hl; omega
    · exact ⟨_, rfl⟩
  obtain ⟨ad, rfl⟩ := hA
  unfold maxLen at hc
  have H := Lib.hid h
  have HL := Lib.hid hl
  have hT : (rowsOf edC (l.take k)).length = k * 2 := rowsOf_len (f := edC) (fun x _ => edC_len x) |>.trans (by rw [List.length_take, hl, Nat.min_eq_left (by omega)])
  have hD : (rowsOf edC (l.drop (k + 1))).length = (n - (k + 1)) * 2 := rowsOf_len (f := edC) (fun x _ => edC_len x) |>.trans (by rw [List.length_drop, hl])
  have he : rowsOf edC (l.eraseIdx k) = rowsOf edC (l.take k) ++ rowsOf edC (l.drop (k + 1)) := by rw [List.eraseIdx_eq_take_drop_succ, rowsOf_app]
  have hel : (l.eraseIdx k).length = n - 1 := by rw [List.length_eraseIdx, hl, if_pos hk]
  have HT := Lib.hid hT
  have HD := Lib.hid hD
  have HE := Lib.hid he
  have HEL := Lib.hid hel
  clear h hl hT hD he hel
  by_cases hck : c = k + 1
  · have hnk : n = k + 1 := by omega
    subst hck
    subst hnk
    go_enter Tryd.func72, Tryd.ntmps72
    go_upto_region 3 with (first
      | (at_builtin; refine wpList_append_rows _ rfl (.tmp 6) (.tmp 9) 89 rfl 100 _ 2 16 Tryd.underlying89 infoEdge rfl (by decide) _ 0 [] rfl (World.ownsRow_nil _ _ _ _) _ _ _ (rowsOf edC (l.take k)) rfl HT.out (fun h => by cases h) (fun ad h j u hj => by have := H.out.news 0 k ad h j u (by rwa [List.drop_zero]); simpa [Addr.add] using this) edC_one ⟨by omega, by omega⟩ ?_; intro A6 c6 w6 ho6 hc6 hg6; simp only [Nat.zero_add, List.nil_append] at ho6 hg6; have HO6 := Lib.hid ho6; have HC6 := Lib.hid hc6; have HG6 := Lib.hid hg6; clear ho6 hc6 hg6))
    go_wp2_with (first
      | (at_builtin; refine wpList_append_rows _ rfl (.tmp 11) (.tmp 15) 89 rfl 100 _ 2 16 Tryd.underlying89 infoEdge rfl (by decide) _ _ _ rfl HO6.out _ 0 _ [] rfl rfl (fun h => by cases h) (fun ad' h j u hj => by simp at hj) (fun u hu => by simp at hu) ⟨by omega, by omega⟩ ?_; intro A7 c7 w7 ho7 hc7 hg7; have HO7 := Lib.hid ho7; have HC7 := Lib.hid hc7; have HG7 := Lib.hid hg7; clear ho7 hc7 hg7))
    go_ret
    exact out_end rfl (by rw [HEL.out]; rfl) (by rw [HE.out, List.drop_eq_nil_of_le (by rw [HL.out]; exact Nat.le_refl _)]; exact HO7.out) HC6.out HG6.out HC7.out HG7.out
  · go_enter Tryd.func72, Tryd.ntmps72
    go_upto_region 3 with (first
      | (at_builtin; refine wpList_append_rows _ rfl (.tmp 6) (.tmp 9) 89 rfl 100 _ 2 16 Tryd.underlying89 infoEdge rfl (by decide) _ 0 [] rfl (World.ownsRow_nil _ _ _ _) _ _ _ (rowsOf edC (l.take k)) rfl HT.out (fun h => by cases h) (fun ad h j u hj => by have := H.out.news 0 k ad h j u (by rwa [List.drop_zero]); simpa [Addr.add] using this) edC_one ⟨by omega, by omega⟩ ?_; intro A6 c6 w6 ho6 hc6 hg6; simp only [Nat.zero_add, List.nil_append] at ho6 hg6; have HO6 := Lib.hid ho6; have HC6 := Lib.hid hc6; have HG6 := Lib.hid hg6; clear ho6 hc6 hg6))
    have H6 : Hid (EdsAt w6 (some ad) l) := H.out.chg HC6.out (fun _ _ _ h => by have h2 : (Value.slice none 0 0).ownBlock = some _ := h; simp [Value.ownBlock] at h2)
    go_wp2_with (first
      | (at_builtin; refine wpList_append_rows _ rfl (.tmp 11) (.tmp 15) 89 rfl 100 _ 2 16 Tryd.underlying89 infoEdge rfl (by decide) _ _ _ rfl HO6.out _ _ _ (rowsOf edC (l.drop (k + 1))) rfl HD.out (fun h => by cases h) (fun ad' h j u hj => by have := H6.out.news (k + 1) l.length ad rfl j u (by rwa [List.take_of_length_le (by simp)]); injection h with h; rw [← h]; exact this) edC_one ⟨by omega, by omega⟩ ?_; intro A7 c7 w7 ho7 hc7 hg7; have HO7 := Lib.hid ho7; have HC7 := Lib.hid hc7; have HG7 := Lib.hid hg7; clear ho7 hc7 hg7))
    go_ret
    exact out_end rfl (by rw [HEL.out]; omega) (by rw [HE.out]; exact HO7.out) HC6.out HG6.out HC7.out HG7.out
end Go.Proofs.YtenjblonepegfaaDoor
