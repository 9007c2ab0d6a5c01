/-
  What is made of rows leaves them: the walk of SeqStays. Condition: the arguments are read as 'IntsAt' says.
-/
import Derived.Test.YtnoekneeefpleaaSq6
namespace Go.Proofs.Ytnoekneeefpleaa
open Go Go.RowKit SQ

/-- Two, three results, whatever they are; only new blocks. -/
def Some2 (w : World) (e : Ending) (w' : World) : Prop := ∃ v1 v2 : Value, e = .returned (.tuple #[v1, v2]) ∧ Ext w w'
def Some3 (w : World) (e : Ending) (w' : World) : Prop := ∃ v1 v2 v3 : Value, e = .returned (.tuple #[v1, v2, v3]) ∧ Ext w w'
theorem of_some (w : World) (A : Option Addr) (n c : Nat) (xs : List Int) (hx : IntsAt w A xs) (hl : xs.length = n) : Calls Try.prog 25 #[.slice A n c] w (Some2 w) := by
  by_cases h : n ≤ 400
  · exact (of_yes w A n c xs hx hl h).mono fun e w' ⟨t, p, _, he, _, hx⟩ => ⟨_, _, he, hx⟩
  · exact (of_no w A n c (by omega)).mono fun e w' ⟨he, hw⟩ => ⟨_, _, he, hw ▸ Ext.refl _⟩
theorem sjoin_some (w : World) (p q : Option Addr) (l r : T) (hl : SeqAt w p l) (hr : SeqAt w q r) (h1 : l.size ≤ 400) (h2 : r.size ≤ 400) : Calls Try.prog 28 #[.pointer p, .pointer q] w (Some2 w) := by
  by_cases h : l.size + r.size ≤ 400
  · exact (sjoin_yes w p q l r hl hr h).mono fun e w' ⟨t, p, _, he, _, hx⟩ => ⟨_, _, he, hx⟩
  · exact (sjoin_no w p q l r hl hr h1 h2 (by omega)).mono fun e w' ⟨he, hw⟩ => ⟨_, _, he, hw ▸ Ext.refl _⟩
theorem ssplit_some (w : World) (p : Option Addr) (t : T) (i : Int) (ht : SeqAt w p t) (hz : t.size ≤ 400) : Calls Try.prog 27 #[.pointer p, .int .i64 i] w (Some3 w) := by
  by_cases h : i < 0 ∨ (t.size : Int) < i
  · exact (ssplit_no w p t i ht h).mono fun e w' ⟨he, hw⟩ => ⟨_, _, _, he, hw ▸ Ext.refl _⟩
  · obtain ⟨i, rfl⟩ := Int.eq_ofNat_of_zero_le (show 0 ≤ i by omega)
    exact (ssplit_yes w p t i ht hz (by omega)).mono fun e w' ⟨lo, hi, p, q, _, _, _, he, _, _, hx⟩ => ⟨_, _, _, he, hx⟩
/-- A row of which its list is known. -/
def RowAt (w : World) (p : Option Addr) (xs : List Int) : Prop := ∃ t, SeqAt w p t ∧ t.list = xs
theorem RowAt.ext {w w' : World} {p : Option Addr} {xs : List Int} (h : RowAt w p xs) (he : Ext w w') : RowAt w' p xs := by
  obtain ⟨t, h1, h2⟩ := h; exact ⟨t, h1.ext he, h2⟩
theorem row_len {w : World} {p : Option Addr} {xs : List Int} (h : RowAt w p xs) : Calls Try.prog 26 #[.pointer p] w fun e w' => e = .returned (.int .i64 (xs.length : Nat)) ∧ w = w' := by
  obtain ⟨t, h1, rfl⟩ := h; rw [T.len]; exact len_any w p t h1
theorem row_list {w : World} {p : Option Addr} {xs : List Int} (h : RowAt w p xs) (hz : xs.length ≤ 1000) : Calls Try.prog 30 #[.pointer p] w (ListPost w xs) := by
  obtain ⟨t, h1, rfl⟩ := h; exact list_any w p t h1 (by rw [← T.len]; exact hz)
def RowRes (w : World) (xs : List Int) (e : Ending) (w' : World) : Prop := ∃ p : Option Addr, e = .returned (.tuple #[.pointer p, .nilIface]) ∧ RowAt w' p xs ∧ Ext w w'
theorem row_of {w : World} {A : Option Addr} {n c : Nat} {xs : List Int} (hx : IntsAt w A xs) (hl : xs.length = n) (h : n ≤ 400) : Calls Try.prog 25 #[.slice A n c] w (RowRes w xs) :=
  (of_yes w A n c xs hx hl h).mono fun _ _ ⟨t, p, h1, he, h2, hx⟩ => ⟨p, he, ⟨t, h2, h1.1⟩, hx⟩
theorem row_join {w : World} {p q : Option Addr} {xs ys : List Int} (h1 : RowAt w p xs) (h2 : RowAt w q ys) (h : xs.length + ys.length ≤ 400) : Calls Try.prog 28 #[.pointer p, .pointer q] w (RowRes w (xs ++ ys)) := by
  obtain ⟨t, t1, rfl⟩ := h1
  obtain ⟨u, u1, rfl⟩ := h2
  rw [T.len, T.len] at h
  exact (sjoin_yes w p q t u t1 u1 h).mono fun _ _ ⟨v, p, h1, he, h2, hx⟩ => ⟨p, he, ⟨v, h2, h1.1⟩, hx⟩
theorem row_join_no {w : World} {p q : Option Addr} {xs ys : List Int} (h1 : RowAt w p xs) (h2 : RowAt w q ys) (z1 : xs.length ≤ 400) (z2 : ys.length ≤ 400) (h : 400 < xs.length + ys.length) :
    Calls Try.prog 28 #[.pointer p, .pointer q] w fun e w' => e = .returned (.tuple #[.pointer none, errV 3]) ∧ w = w' := by
  obtain ⟨t, t1, rfl⟩ := h1
  obtain ⟨u, u1, rfl⟩ := h2
  rw [T.len] at z1 z2 h; rw [T.len] at h
  exact sjoin_no w p q t u t1 u1 z1 z2 h
theorem row_join_some {w : World} {p q : Option Addr} {xs ys : List Int} (h1 : RowAt w p xs) (h2 : RowAt w q ys) (z1 : xs.length ≤ 400) (z2 : ys.length ≤ 400) : Calls Try.prog 28 #[.pointer p, .pointer q] w (Some2 w) := by
  obtain ⟨t, t1, rfl⟩ := h1
  obtain ⟨u, u1, rfl⟩ := h2
  rw [T.len] at z1 z2
  exact sjoin_some w p q t u t1 u1 z1 z2
theorem row_split_some {w : World} {p : Option Addr} {xs : List Int} (h : RowAt w p xs) (z : xs.length ≤ 400) (i : Int) : Calls Try.prog 27 #[.pointer p, .int .i64 i] w (Some3 w) := by
  obtain ⟨t, t1, rfl⟩ := h
  rw [T.len] at z
  exact ssplit_some w p t i t1 z
theorem row_split_no {w : World} {p : Option Addr} {xs : List Int} (h : RowAt w p xs) (i : Int) (hi : i < 0 ∨ (xs.length : Int) < i) : Calls Try.prog 27 #[.pointer p, .int .i64 i] w fun e w' => e = .returned (.tuple #[.pointer none, .pointer none, errV 1]) ∧ w = w' := by
  obtain ⟨t, t1, rfl⟩ := h
  rw [T.len] at hi
  exact ssplit_no w p t i t1 hi
def SplitRes (w : World) (xs : List Int) (i : Nat) (e : Ending) (w' : World) : Prop := ∃ p q : Option Addr, e = .returned (.tuple #[.pointer p, .pointer q, .nilIface]) ∧ RowAt w' p (xs.take i) ∧ RowAt w' q (xs.drop i) ∧ Ext w w'
theorem row_split {w : World} {p : Option Addr} {xs : List Int} (h : RowAt w p xs) (z : xs.length ≤ 400) (i : Nat) (hi : i ≤ xs.length) : Calls Try.prog 27 #[.pointer p, .int .i64 i] w (SplitRes w xs i) := by
  obtain ⟨t, t1, rfl⟩ := h
  rw [T.len] at z hi
  exact (ssplit_yes w p t i t1 z hi).mono fun _ _ ⟨lo, hi, p, q, h1, h2, _, he, h3, h4, hx⟩ => ⟨p, q, he, ⟨lo, h3, h1⟩, ⟨hi, h4, h2⟩, hx⟩

set_option maxRecDepth 100000 in
set_option maxHeartbeats 2000000 in
theorem sqs_walk (a : Option Addr) (n cap : Nat) (xs : List Int) (b : Option Addr) (m cap' : Nat) (ys : List Int) (i k : Int) (w : World) (hx : IntsAt w a xs ∧ xs.length = n ∧ n ≤ cap ∧ cap ≤ maxLen) (hy : IntsAt w b ys ∧ ys.length = m ∧ m ≤ cap' ∧ cap' ≤ maxLen) :
    Calls Try.prog 7 #[.slice a n cap, .slice b m cap', .int .i64 i, .int .i64 k] w fun e w' => e = .returned (.bool true) ∧ Below w.heap.size w w' := by
  obtain ⟨hx1, hx2, hx3, hx4⟩ := hx
  obtain ⟨hy1, hy2, hy3, hy4⟩ := hy
  unfold maxLen at hx4 hy4
  have HX := Lib.hid hx1
  have HXL := Lib.hid hx2
  have HY := Lib.hid hy1
  have HYL := Lib.hid hy2
  clear hx1 hx2 hy1 hy2
  go_enter Try.func7, Try.ntmps7
  go_wp2_with fail
  refine (row_of (xs := [7]) (.inr ⟨w.heap.size, 0, rfl, by simp, fun j v hv => ?_⟩) rfl (by decide)).mono ?_
  · match j, hv with
    | 0, hv => simp at hv; subst hv; simp
  rintro e w1 ⟨p0, rfl, h0, e0⟩
  have H0 := Lib.hid h0
  have E1 := Lib.hid ((Ext.alloc _ _).trans e0)
  clear h0 e0
  go_wp2_with fail
  refine (row_len H0.out).mono ?_
  rintro e w9 ⟨rfl, rfl⟩
  by_cases ha : n ≤ 400
  · go_wp2_with fail
    refine (row_of (HX.out.ext E1.out) HXL.out ha).mono ?_
    rintro e w2 ⟨px, rfl, h1, e1⟩
    have R1 := Lib.hid h1
    have E2 := Lib.hid (E1.out.trans e1)
    clear h1 e1 H0 E1
    by_cases hb : m ≤ 400
    · go_wp2_with fail
      refine (row_of (HY.out.ext E2.out) HYL.out hb).mono ?_
      rintro e w3 ⟨py, rfl, h2, e2⟩
      have R2 := Lib.hid h2
      have R1' := Lib.hid (R1.out.ext e2)
      have E3 := Lib.hid (E2.out.trans e2)
      clear h2 e2 R1 E2
      go_wp2
      go_loopw [15] (fun v wr => ∃ t : Nat, t ≤ 5 ∧ v = .int .i64 t ∧ Ext w3 wr) (fun v _ => 5 - (intOf v).toNat)
      case atStart => exact ⟨0, by omega, rfl, Ext.refl _⟩
      case round =>
        obtain ⟨t, ht, rfl, he⟩ := hrel
        have HE := Lib.hid he
        clear he
        by_cases hlt : t < 5
        · have hstep : Hid (∀ w', Ext wr w' → ∃ t' : Nat, t' ≤ 5 ∧ Value.int .i64 ((t : Int) + 1) = .int .i64 t' ∧ Ext w3 w') := fun w' hw => ⟨t + 1, by omega, by go_num, HE.out.trans hw⟩
          by_cases hi : i < 0 ∨ (xs.length : Int) < i
          · go_wp2_with fail
            refine (row_split_no (R1'.out.ext HE.out) i hi).mono ?_
            rintro e w9 ⟨rfl, rfl⟩
            clear hi
            have hj : (xs.length + ys.length ≤ 400) ∨ 400 < xs.length + ys.length := by omega
            rcases hj with hj | hj
            · have HJ := Lib.hid hj
              clear hj
              go_wp2_with fail
              refine (row_join (R1'.out.ext HE.out) (R2.out.ext HE.out) HJ.out).mono ?_
              rintro e w4 ⟨pz, rfl, hz, e4⟩
              have HZ := Lib.hid hz
              have E4 := Lib.hid e4
              clear hz e4
              go_wp2_with fail
              refine (row_split_some HZ.out (by rw [List.length_append]; exact HJ.out) k).mono ?_
              rintro e w5 ⟨u1, u2, u3, rfl, e5⟩
              have E5 := Lib.hid (E4.out.trans e5)
              clear e5
              go_wp2_with fail
              refine (row_join_some (R1'.out.ext (HE.out.trans E5.out)) (R1'.out.ext (HE.out.trans E5.out)) (by rw [HXL.out]; exact ha) (by rw [HXL.out]; exact ha)).mono ?_
              rintro e w6 ⟨u4, u5, rfl, e6⟩
              have E6 := Lib.hid (E5.out.trans e6)
              clear e6
              go_wp2
              go_roundw
              case rel => exact hstep.out _ E6.out
              case measure => simp [intOf]; omega
            · have HJ := Lib.hid hj
              clear hj
              go_wp2_with fail
              refine (row_join_no (R1'.out.ext HE.out) (R2.out.ext HE.out) (by rw [HXL.out]; exact ha) (by rw [HYL.out]; exact hb) HJ.out).mono ?_
              rintro e w9 ⟨rfl, rfl⟩
              go_wp2_with fail
              refine (row_join_some (R1'.out.ext HE.out) (R1'.out.ext HE.out) (by rw [HXL.out]; exact ha) (by rw [HXL.out]; exact ha)).mono ?_
              rintro e w6 ⟨u4, u5, rfl, e6⟩
              have E6 := Lib.hid e6
              clear e6
              go_wp2
              go_roundw
              case rel => exact hstep.out _ E6.out
              case measure => simp [intOf]; omega
          · obtain ⟨i, rfl⟩ := Int.eq_ofNat_of_zero_le (show 0 ≤ i by omega)
            have HI : Hid (i ≤ xs.length) := by unfold Hid; omega
            clear hi
            go_wp2_with fail
            refine (row_split (R1'.out.ext HE.out) (by rw [HXL.out]; exact ha) i HI.out).mono ?_
            rintro e w4 ⟨pl, ph, rfl, hl, hh, e4⟩
            have HL := Lib.hid hl
            have HH := Lib.hid hh
            have E4 := Lib.hid e4
            clear hl hh e4
            go_wp2_with fail
            refine (row_join HH.out HL.out (by have h1 := HXL.out; have h2 := HI.out; simp only [List.length_take, List.length_drop]; omega)).mono ?_
            rintro e w5 ⟨pz, rfl, hz, e5⟩
            have HZ := Lib.hid hz
            have E5 := Lib.hid (E4.out.trans e5)
            clear hz e5
            go_wp2_with fail
            refine (row_split_some HZ.out (by have h1 := HXL.out; have h2 := HI.out; simp only [List.length_append, List.length_take, List.length_drop]; omega) k).mono ?_
            rintro e w6 ⟨u1, u2, u3, rfl, e6⟩
            have E6 := Lib.hid (E5.out.trans e6)
            clear e6
            have hj : (xs.length + ys.length ≤ 400) ∨ 400 < xs.length + ys.length := by omega
            rcases hj with hj | hj
            · have HJ := Lib.hid hj
              clear hj
              go_wp2_with fail
              refine (row_join (R1'.out.ext (HE.out.trans E6.out)) (R2.out.ext (HE.out.trans E6.out)) HJ.out).mono ?_
              rintro e w7 ⟨pz2, rfl, hz2, e7⟩
              have HZ2 := Lib.hid hz2
              have E7 := Lib.hid (E6.out.trans e7)
              clear hz2 e7
              go_wp2_with fail
              refine (row_split_some HZ2.out (by rw [List.length_append]; exact HJ.out) k).mono ?_
              rintro e w8 ⟨u4, u5, u6, rfl, e8⟩
              have E8 := Lib.hid (E7.out.trans e8)
              clear e8
              go_wp2_with fail
              refine (row_join_some (R1'.out.ext (HE.out.trans E8.out)) (R1'.out.ext (HE.out.trans E8.out)) (by rw [HXL.out]; exact ha) (by rw [HXL.out]; exact ha)).mono ?_
              rintro e w9 ⟨u7, u8, rfl, e9⟩
              have E9 := Lib.hid (E8.out.trans e9)
              clear e9
              go_wp2
              go_roundw
              case rel => exact hstep.out _ E9.out
              case measure => simp [intOf]; omega
            · have HJ := Lib.hid hj
              clear hj
              go_wp2_with fail
              refine (row_join_no (R1'.out.ext (HE.out.trans E6.out)) (R2.out.ext (HE.out.trans E6.out)) (by rw [HXL.out]; exact ha) (by rw [HYL.out]; exact hb) HJ.out).mono ?_
              rintro e w9 ⟨rfl, rfl⟩
              go_wp2_with fail
              refine (row_join_some (R1'.out.ext (HE.out.trans E6.out)) (R1'.out.ext (HE.out.trans E6.out)) (by rw [HXL.out]; exact ha) (by rw [HXL.out]; exact ha)).mono ?_
              rintro e w9 ⟨u7, u8, rfl, e9⟩
              have E9 := Lib.hid (E6.out.trans e9)
              clear e9
              go_wp2
              go_roundw
              case rel => exact hstep.out _ E9.out
              case measure => simp [intOf]; omega
        · go_wp2_with fail
          refine (row_list (R1'.out.ext HE.out) (by rw [HXL.out]; omega)).mono ?_
          rintro e w4 ⟨A1, d1, rfl, ho1, e4, _⟩
          have HO1 := Lib.hid (IntsAt.of_own ho1).1
          have E4 := Lib.hid (HE.out.trans e4)
          clear ho1 e4
          go_wp2_with fail
          refine (ints_any w4 A1 a xs.length n d1 cap xs xs HO1.out (HX.out.ext (E3.out.trans E4.out)) rfl HXL.out (by rw [HXL.out]; omega) (by omega) true (by simp)).mono ?_
          rintro e w5 ⟨rfl, e5⟩
          have E5 := Lib.hid (E4.out.trans e5)
          clear e5
          go_wp2_with fail
          refine (row_list (R2.out.ext E5.out) (by rw [HYL.out]; omega)).mono ?_
          rintro e w6 ⟨A2, d2, rfl, ho2, e6, _⟩
          have HO2 := Lib.hid (IntsAt.of_own ho2).1
          have E6 := Lib.hid (E5.out.trans e6)
          clear ho2 e6
          go_wp2_with fail
          refine (ints_any w6 A2 b ys.length m d2 cap' ys ys HO2.out (HY.out.ext (E3.out.trans E6.out)) rfl HYL.out (by rw [HYL.out]; omega) (by omega) true (by simp)).mono ?_
          rintro e w7 ⟨rfl, e7⟩
          have E7 := Lib.hid (E6.out.trans e7)
          clear e7
          go_wp2_with fail
          refine (row_len (R1'.out.ext E7.out)).mono ?_
          rintro e w9 ⟨rfl, rfl⟩
          rw [HXL.out]
          go_wp2
          go_ret
          exact ⟨rfl, E3.out.trans E7.out⟩
    · go_wp2_with fail
      refine (of_no _ b m cap' (by omega)).mono ?_
      rintro e w3 ⟨rfl, rfl⟩
      go_wp2
      go_ret
      exact ⟨rfl, E2.out⟩
  · go_wp2_with fail
    refine (of_no _ a n cap (by omega)).mono ?_
    rintro e w2 ⟨rfl, rfl⟩
    go_wp2_with fail
    refine (of_some _ b m cap' ys (HY.out.ext E1.out) HYL.out).mono ?_
    rintro e w3 ⟨v1, v2, rfl, e3⟩
    have E3 := Lib.hid (E1.out.trans e3)
    clear e3
    go_wp2
    go_ret
    exact ⟨rfl, E3.out⟩
end Go.Proofs.Ytnoekneeefpleaa
