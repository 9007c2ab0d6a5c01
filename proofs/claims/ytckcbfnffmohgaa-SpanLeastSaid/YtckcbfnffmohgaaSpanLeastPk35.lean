/-
  Walk of seq.List: its closure that walks the tree, then List. Condition: the row lies in memory as 'SeqAt' says, and has at most 1000 items.
  Rows by their lists: contracts of package seq. No conditions.
-/
import Derived.Test.YtckcbfnffmohgaaSpanLeastPk34
import Derived.Laws.EntriesVeiled
import Derived.Deep.RegionLaw
namespace Go.Proofs.Ytckcbfnffmohgaa
open Go Go.RowKit SQ

theorem own_slice' {w : World} {base : Nat} {e : TypeId} {size : Nat} {v : Value} {n : Nat} {xs : List Value} (h : w.ownsRow base e size v n xs) : ∃ A c, v = .slice A n c ∧ n ≤ c := by
  rcases h.2 with ⟨rfl, rfl⟩ | ⟨g, cap, cur, rfl, _, _, h1, _⟩
  · exact ⟨none, 0, rfl, Nat.le_refl _⟩
  · exact ⟨_, cap, rfl, h1⟩
theorem infoInt' : (Try.prog.info? 3).map (fun i => (i.zero, i.size, i.bytes)) = some (some (.int .i64 0), 1, 8) := by kernel_rfl
/-- The closure's value. -/
abbrev walkV (wb ob : Nat) : Value := .func (.func 56) #[] #[.pointer (some ⟨wb, 0, none⟩), .pointer (some ⟨ob, 0, none⟩)]
/-- What the closure works on: its own variable, the list. -/
structure LSt (W w : World) (wb ob : Nat) (v : Value) (xs : List Int) : Prop where
  bel : Below W.heap.size W w
  nwb : W.heap.size ≤ wb
  nob : W.heap.size ≤ ob
  bw : Blk w wb 60 #[walkV wb ob]
  bo : Blk w ob 32 #[v]
  row : w.ownsRow 0 3 1 v xs.length (xs.map (Value.int .i64))
  own : ∀ k, v.ownBlock = some k → W.heap.size ≤ k
theorem LSt.drew {W w : World} {wb ob : Nat} {v : Value} {xs : List Int} (h : LSt W w wb ob v xs) : LSt W w.drew wb ob v xs := ⟨h.bel.drew, h.nwb, h.nob, h.bw, h.bo, h.row, h.own⟩
theorem LSt.push {W w w1 : World} {wb ob g c : Nat} {v : Value} {xs : List Int} {x : Int} {o : Obj} (h : LSt W w wb ob v xs)
    (ho : w1.ownsRow 0 3 1 (.slice (some ⟨g, 0, none⟩) (xs.length + 1) c) (xs.length + 1) (xs.map (Value.int .i64) ++ [.int .i64 x])) (hc : Chg (fun k => v.ownBlock = some k) (w.alloc o) w1) (hat : v.ownBlock = some g ∨ g = (w.alloc o).heap.size) :
    Blk w1 ob 32 #[v] ∧ LSt W (w1.setCell ⟨ob, 0, none⟩ (.slice (some ⟨g, 0, none⟩) (xs.length + 1) c)) wb ob (.slice (some ⟨g, 0, none⟩) (xs.length + 1) c) (xs ++ [x]) := by
  have n1 : wb ≠ ob := h.bw.ne_ h.bo (by decide)
  have n2 : v.ownBlock ≠ some wb := own_ne h.row h.bw (by decide)
  have n3 : v.ownBlock ≠ some ob := own_ne h.row h.bo (by decide)
  have hB := (h.bo.alloc o).chg hc n3
  have hz := h.bel.size
  have z1 := h.bo.lt
  simp only [World.size_alloc] at hat
  have hg : g ≠ ob := by
    rcases hat with e | e
    · intro e2; subst e2; exact n3 e
    · omega
  refine ⟨hB, ⟨?_, h.nwb, h.nob, ((h.bw.alloc o).chg hc n2).far n1 _, hB.set_ 0 _, ?_, fun k hk => ?_⟩⟩
  · exact (((Chg.of_below h.bel).alloc o).trans hc (fun k _ hk => h.own k hk)).setCell (p := ⟨ob, 0, none⟩) (fun _ => h.nob) _ |>.below (Nat.le_refl _) (fun _ _ h => h)
  · have := own_far ho (p := ⟨ob, 0, none⟩) (by simp [Value.ownBlock]; exact hg) (.slice (some ⟨g, 0, none⟩) (xs.length + 1) c)
    simpa using this
  · simp [Value.ownBlock] at hk
    subst hk
    rcases hat with e | e
    · exact h.own _ e
    · omega

def WalkPost (W : World) (wb ob : Nat) (xs : List Int) (e : Ending) (w' : World) : Prop := ∃ v, e = .returned (.tuple #[]) ∧ LSt W w' wb ob v xs
set_option maxRecDepth 100000 in
set_option maxHeartbeats 1000000 in
theorem walk_any (t : T) : ∀ (W w : World) (p : Option Addr) (wb ob : Nat) (v : Value) (xs : List Int), SeqAt W p t → LSt W w wb ob v xs → xs.length + t.size ≤ 1000 →
    Calls Try.prog 56 #[.pointer p, .pointer (some ⟨wb, 0, none⟩), .pointer (some ⟨ob, 0, none⟩)] w (WalkPost W wb ob (xs ++ t.list)) := by
  induction t with
  | nil =>
    intro W w p wb ob v xs hs h _
    obtain rfl : p = none := hs
    have H := Lib.hid h
    clear h
    go_enter Try.func56, Try.ntmps56
    go_wp2
    go_end0
    exact ⟨v, rfl, by simpa [T.list] using H.out⟩
  | node l x r ihl ihr =>
    intro W w p wb ob v xs hs h hz
    obtain ⟨b, lp, rp, rfl, hb, c0, c1, c2, _, r1, r2⟩ := seqCells W hs
    have h1 : (T.node l x r).size = l.size + 1 + r.size := rfl
    have z1 := T.len l
    obtain ⟨ys, hys⟩ : ∃ ys, ys = xs ++ l.list := ⟨_, rfl⟩
    have hyl : ys.length = xs.length + l.list.length := by rw [hys]; simp
    have HI1 := Lib.hid (ihl W w.drew lp wb ob v xs r1 h.drew (by omega))
    rw [← hys] at HI1
    have HI2 : Hid (∀ (w : World) (v : Value), LSt W w wb ob v (ys ++ [x]) → Calls Try.prog 56 #[.pointer rp, .pointer (some ⟨wb, 0, none⟩), .pointer (some ⟨ob, 0, none⟩)] w (WalkPost W wb ob (ys ++ [x] ++ r.list))) :=
      fun w v h => ihr W w rp wb ob v _ r2 h (by simp only [List.length_append, List.length_cons, List.length_nil]; omega)
    have HF : Hid (xs ++ (T.node l x r).list = ys ++ [x] ++ r.list) := by unfold Hid; rw [hys]; simp [T.list]
    have HZ : ys.length ≤ 1000 := by omega
    have HB := Lib.hid (show ∀ w', Below W.heap.size W w' → w'.cell? ⟨b, 0, none⟩ = some (.pointer lp) ∧ w'.cell? ⟨b, 1, none⟩ = some (.pointer rp) ∧ w'.cell? ⟨b, 2, none⟩ = some (.int .i64 x) from
      fun w' hw => ⟨(hw.cell (p := ⟨b, 0, none⟩) hb).trans c0, (hw.cell (p := ⟨b, 1, none⟩) hb).trans c1, (hw.cell (p := ⟨b, 2, none⟩) hb).trans c2⟩)
    obtain ⟨d0, d1, d2⟩ := HB.out w h.bel
    have dw : w.cell? ⟨wb, 0, none⟩ = some (walkV wb ob) := h.bw.cell 0
    clear h hs r1 r2 h1 z1 hz c0 c1 c2 hyl hys ihl ihr
    go_enter Try.func56, Try.ntmps56
    go_wp2
    go_still_tail 5, (by kernel_rfl)
    go_wp2_with fail
    refine HI1.out.mono ?_
    rintro e w1 ⟨v1, rfl, hl1⟩
    have HL1 := Lib.hid hl1
    obtain ⟨e0, e1, e2⟩ := HB.out w1 hl1.bel
    have eo : w1.cell? ⟨ob, 0, none⟩ = some v1 := hl1.bo.cell 0
    have eo2 : ∀ o, (w1.alloc o).cell? ⟨ob, 0, none⟩ = some v1 := fun o => (hl1.bo.alloc o).cell 0
    clear hl1 d0 d1 d2 dw HI1
    go_wp2
    have HL2 := Lib.hid (HL1.out.drew)
    go_region_law (first
      | (refine step_push _ (by rfl) (.tmp 12) (.tmp 17) 32 (by rfl) 3 (.int .i64 0) 8 Try.underlying32 infoInt' (by rfl) v1 ys.length (ys.map (Value.int .i64)) (by rfl) (HL1.out.row.alloc _).drew ⟨by omega, by omega⟩ (.int .i64 x) w1.heap.size (by rfl) (cell_new1 rfl _ _) (by rfl) ?_; intro g c w2 ho hc hat; have HP := Lib.hid (HL1.out.push ho hc.undrew hat); have f1 : w2.cell? ⟨ob, 0, none⟩ = some v1 := HP.out.1.cell 0; have f2 := HP.out.1.frozen 0; clear ho hc hat))
    all_goals
      have HP2 := Lib.hid HP.out.2
      obtain ⟨g0, g1, g2⟩ := HB.out _ HP2.out.bel
      have gw := HP2.out.bw.cell 0
      have gw' : (w2.setCell ⟨ob, 0, none⟩ (.slice (some ⟨g, 0, none⟩) (ys.length + 1) c)).cell? ⟨wb, 0, none⟩ = some (walkV wb ob) := gw
      clear gw f1 f2 e0 e1 e2 eo eo2 HP HL1 HL2
      generalize (w2.setCell ⟨ob, 0, none⟩ (.slice (some ⟨g, 0, none⟩) (ys.length + 1) c)) = w3 at HP2 g0 g1 g2 gw' ⊢
      go_wp2
      go_still_tail 5, (by kernel_rfl)
      go_wp2_with fail
      refine (HI2.out _ _ HP2.out.drew).mono ?_
      rintro e w4 ⟨v4, rfl, hl4⟩
      have HL4 := Lib.hid hl4
      clear hl4 HI2 g0 g1 g2 gw'
      go_wp2
      go_end0
      exact ⟨v4, rfl, by rw [HF.out]; exact HL4.out⟩

def ListPost (w : World) (xs : List Int) (e : Ending) (w' : World) : Prop := ∃ (A : Option Addr) (c : Nat), e = .returned (.slice A xs.length c) ∧ w'.ownsRow 0 3 1 (.slice A xs.length c) xs.length (xs.map (Value.int .i64)) ∧ Ext w w' ∧ ∀ k, (Value.slice A xs.length c).ownBlock = some k → w.heap.size ≤ k
set_option maxRecDepth 100000 in
set_option maxHeartbeats 1000000 in
theorem list_any (w : World) (p : Option Addr) (t : T) (hs : SeqAt w p t) (hz : t.size ≤ 1000) :
    Calls Try.prog 34 #[.pointer p] w (ListPost w t.list) := by
  have HS := Lib.hid hs
  have HW : Hid (∀ W', LSt w W' (w.heap.size + 1) w.heap.size (.slice none 0 0) [] → Calls Try.prog 56 #[.pointer p, .pointer (some ⟨w.heap.size + 1, 0, none⟩), .pointer (some ⟨w.heap.size, 0, none⟩)] W' (WalkPost w (w.heap.size + 1) w.heap.size t.list)) :=
    fun W' h => by have := walk_any t w W' p _ _ _ [] HS.out h (by simpa using hz); simpa using this
  clear hs
  go_enter Try.func34, Try.ntmps34
  go_wp2_with fail
  refine (HW.out _ ⟨((Below.refl _ _).alloc (Nat.le_refl _) _).alloc (by simp) _, by omega, Nat.le_refl _, ?_, ?_, World.ownsRow_nil _ _ _ _, fun k hk => by simp [Value.ownBlock] at hk⟩).mono ?_
  · have := Blk.new (w.alloc (.cells #[.slice none 0 0] 32)) 60 #[walkV (w.heap.size + 1) w.heap.size]
    simpa using this
  · exact (Blk.new w 32 #[.slice none 0 0]).alloc _
  rintro e w1 ⟨v, rfl, h⟩
  have H := Lib.hid h
  have d0 : w1.cell? ⟨w.heap.size, 0, none⟩ = some v := h.bo.cell 0
  clear h HW
  go_wp2
  go_ret
  obtain ⟨A, c, hv, _⟩ := own_slice' H.out.row
  subst hv
  exact ⟨A, c, rfl, H.out.row, H.out.bel, H.out.own⟩
end Go.Proofs.Ytckcbfnffmohgaa
namespace Go.Proofs.Ytckcbfnffmohgaa
open Go Go.RowKit SQ

/-- Two, three results, whatever they are; only new blocks. -/
def Some2 (w : World) (e : Ending) (w' : World) : Prop := ∃ v1 v2 : Value, e = .returned (.tuple #[v1, v2]) ∧ Ext w w'
def Some3 (w : World) (e : Ending) (w' : World) : Prop := ∃ v1 v2 v3 : Value, e = .returned (.tuple #[v1, v2, v3]) ∧ Ext w w'
theorem of_some (w : World) (A : Option Addr) (n c : Nat) (xs : List Int) (hx : IntsAt w A xs) (hl : xs.length = n) : Calls Try.prog 17 #[.slice A n c] w (Some2 w) := by
  by_cases h : n ≤ 400
  · exact (of_yes w A n c xs hx hl h).mono fun e w' ⟨t, p, _, he, _, hx⟩ => ⟨_, _, he, hx⟩
  · exact (of_no w A n c (by omega)).mono fun e w' ⟨he, hw⟩ => ⟨_, _, he, hw ▸ Ext.refl _⟩
theorem sjoin_some (w : World) (p q : Option Addr) (l r : T) (hl : SeqAt w p l) (hr : SeqAt w q r) (h1 : l.size ≤ 400) (h2 : r.size ≤ 400) : Calls Try.prog 35 #[.pointer p, .pointer q] w (Some2 w) := by
  by_cases h : l.size + r.size ≤ 400
  · exact (sjoin_yes w p q l r hl hr h).mono fun e w' ⟨t, p, _, he, _, hx⟩ => ⟨_, _, he, hx⟩
  · exact (sjoin_no w p q l r hl hr h1 h2 (by omega)).mono fun e w' ⟨he, hw⟩ => ⟨_, _, he, hw ▸ Ext.refl _⟩
theorem ssplit_some (w : World) (p : Option Addr) (t : T) (i : Int) (ht : SeqAt w p t) (hz : t.size ≤ 400) : Calls Try.prog 32 #[.pointer p, .int .i64 i] w (Some3 w) := by
  by_cases h : i < 0 ∨ (t.size : Int) < i
  · exact (ssplit_no w p t i ht h).mono fun e w' ⟨he, hw⟩ => ⟨_, _, _, he, hw ▸ Ext.refl _⟩
  · obtain ⟨i, rfl⟩ := Int.eq_ofNat_of_zero_le (show 0 ≤ i by omega)
    exact (ssplit_yes w p t i ht hz (by omega)).mono fun e w' ⟨lo, hi, p, q, _, _, _, he, _, _, hx⟩ => ⟨_, _, _, he, hx⟩
/-- A row of which its list is known. -/
def RowAt (w : World) (p : Option Addr) (xs : List Int) : Prop := ∃ t, SeqAt w p t ∧ t.list = xs
theorem RowAt.ext {w w' : World} {p : Option Addr} {xs : List Int} (h : RowAt w p xs) (he : Ext w w') : RowAt w' p xs := by
  obtain ⟨t, h1, h2⟩ := h; exact ⟨t, h1.ext he, h2⟩
theorem row_len {w : World} {p : Option Addr} {xs : List Int} (h : RowAt w p xs) : Calls Try.prog 54 #[.pointer p] w fun e w' => e = .returned (.int .i64 (xs.length : Nat)) ∧ w = w' := by
  obtain ⟨t, h1, rfl⟩ := h; rw [T.len]; exact len_any w p t h1
theorem row_list {w : World} {p : Option Addr} {xs : List Int} (h : RowAt w p xs) (hz : xs.length ≤ 1000) : Calls Try.prog 34 #[.pointer p] w (ListPost w xs) := by
  obtain ⟨t, h1, rfl⟩ := h; exact list_any w p t h1 (by rw [← T.len]; exact hz)
def RowRes (w : World) (xs : List Int) (e : Ending) (w' : World) : Prop := ∃ p : Option Addr, e = .returned (.tuple #[.pointer p, .nilIface]) ∧ RowAt w' p xs ∧ Ext w w'
theorem row_of {w : World} {A : Option Addr} {n c : Nat} {xs : List Int} (hx : IntsAt w A xs) (hl : xs.length = n) (h : n ≤ 400) : Calls Try.prog 17 #[.slice A n c] w (RowRes w xs) :=
  (of_yes w A n c xs hx hl h).mono fun _ _ ⟨t, p, h1, he, h2, hx⟩ => ⟨p, he, ⟨t, h2, h1.1⟩, hx⟩
theorem row_join {w : World} {p q : Option Addr} {xs ys : List Int} (h1 : RowAt w p xs) (h2 : RowAt w q ys) (h : xs.length + ys.length ≤ 400) : Calls Try.prog 35 #[.pointer p, .pointer q] w (RowRes w (xs ++ ys)) := by
  obtain ⟨t, t1, rfl⟩ := h1
  obtain ⟨u, u1, rfl⟩ := h2
  rw [T.len, T.len] at h
  exact (sjoin_yes w p q t u t1 u1 h).mono fun _ _ ⟨v, p, h1, he, h2, hx⟩ => ⟨p, he, ⟨v, h2, h1.1⟩, hx⟩
theorem row_join_no {w : World} {p q : Option Addr} {xs ys : List Int} (h1 : RowAt w p xs) (h2 : RowAt w q ys) (z1 : xs.length ≤ 400) (z2 : ys.length ≤ 400) (h : 400 < xs.length + ys.length) :
    Calls Try.prog 35 #[.pointer p, .pointer q] w fun e w' => e = .returned (.tuple #[.pointer none, errV 3]) ∧ w = w' := by
  obtain ⟨t, t1, rfl⟩ := h1
  obtain ⟨u, u1, rfl⟩ := h2
  rw [T.len] at z1 z2 h; rw [T.len] at h
  exact sjoin_no w p q t u t1 u1 z1 z2 h
theorem row_join_some {w : World} {p q : Option Addr} {xs ys : List Int} (h1 : RowAt w p xs) (h2 : RowAt w q ys) (z1 : xs.length ≤ 400) (z2 : ys.length ≤ 400) : Calls Try.prog 35 #[.pointer p, .pointer q] w (Some2 w) := by
  obtain ⟨t, t1, rfl⟩ := h1
  obtain ⟨u, u1, rfl⟩ := h2
  rw [T.len] at z1 z2
  exact sjoin_some w p q t u t1 u1 z1 z2
theorem row_split_some {w : World} {p : Option Addr} {xs : List Int} (h : RowAt w p xs) (z : xs.length ≤ 400) (i : Int) : Calls Try.prog 32 #[.pointer p, .int .i64 i] w (Some3 w) := by
  obtain ⟨t, t1, rfl⟩ := h
  rw [T.len] at z
  exact ssplit_some w p t i t1 z
theorem row_split_no {w : World} {p : Option Addr} {xs : List Int} (h : RowAt w p xs) (i : Int) (hi : i < 0 ∨ (xs.length : Int) < i) : Calls Try.prog 32 #[.pointer p, .int .i64 i] w fun e w' => e = .returned (.tuple #[.pointer none, .pointer none, errV 1]) ∧ w = w' := by
  obtain ⟨t, t1, rfl⟩ := h
  rw [T.len] at hi
  exact ssplit_no w p t i t1 hi
def SplitRes (w : World) (xs : List Int) (i : Nat) (e : Ending) (w' : World) : Prop := ∃ p q : Option Addr, e = .returned (.tuple #[.pointer p, .pointer q, .nilIface]) ∧ RowAt w' p (xs.take i) ∧ RowAt w' q (xs.drop i) ∧ Ext w w'
theorem row_split {w : World} {p : Option Addr} {xs : List Int} (h : RowAt w p xs) (z : xs.length ≤ 400) (i : Nat) (hi : i ≤ xs.length) : Calls Try.prog 32 #[.pointer p, .int .i64 i] w (SplitRes w xs i) := by
  obtain ⟨t, t1, rfl⟩ := h
  rw [T.len] at z hi
  exact (ssplit_yes w p t i t1 z hi).mono fun _ _ ⟨lo, hi, p, q, h1, h2, _, he, h3, h4, hx⟩ => ⟨p, q, he, ⟨lo, h3, h1⟩, ⟨hi, h4, h2⟩, hx⟩
end Go.Proofs.Ytckcbfnffmohgaa
