/-
  Walks of seq.Of, Join, Split, Depth, List. Condition: the rows lie in memory as 'SeqAt' says, and have at most 400 items each.
-/
import Derived.Test.YtgdbnjcnilnnmaaGreatDoorSq4
namespace Go.Proofs.YtgdbnjcnilnnmaaGreatDoor
open Go Go.RowKit SQ
attribute [local go_sem ↓] Go.wp_at_zero Go.wp_at_succ

theorem ret_i {a b : Int} (h : a = b) : Ending.returned (.int .i64 a) = .returned (.int .i64 b) := by rw [h]
abbrev errV (n : Int) : Value := .iface 23 (.int .i64 n)
/-- A row, or an error. -/
def RowPost (w : World) (R : T → Prop) (e : Ending) (w' : World) : Prop := ∃ (t : T) (p : Option Addr), R t ∧ e = .returned (.tuple #[.pointer p, .nilIface]) ∧ SeqAt w' p t ∧ Ext w w'
set_option maxRecDepth 100000 in
set_option maxHeartbeats 1000000 in
theorem of_no (w : World) (A : Option Addr) (n c : Nat) (h : 400 < n) :
    Calls Tryz.prog 47 #[.slice A n c] w fun e w' => e = .returned (.tuple #[.pointer none, errV 3]) ∧ w = w' := by
  have z : (400 : Int) < (n : Int) := by omega
  go_enter Tryz.func47, Tryz.ntmps47
  go_wp2
  go_ret2
  exact ⟨rfl, rfl⟩
set_option maxRecDepth 100000 in
set_option maxHeartbeats 1000000 in
theorem of_yes (w : World) (A : Option Addr) (n c : Nat) (xs : List Int) (hx : IntsAt w A xs) (hl : xs.length = n) (h : n ≤ 400) :
    Calls Tryz.prog 47 #[.slice A n c] w (RowPost w fun t => t.list = xs ∧ Bal t) := by
  have HX := Lib.hid hx
  have HL := Lib.hid hl
  have z : ¬ (400 : Int) < (n : Int) := by omega
  clear hx hl
  go_enter Tryz.func47, Tryz.ntmps47
  go_wp2
  go_loopw [4, 13] (fun s i wr => ∃ (k : Nat) (p : Option Addr), k ≤ n ∧ i = .int .i64 k ∧ s = .pointer p ∧ (∃ t, SeqAt wr p t ∧ t.list = xs.take k ∧ Bal t) ∧ Ext w wr) (fun _ i _ => n - (intOf i).toNat)
  case atStart => exact ⟨0, none, Nat.zero_le _, rfl, rfl, ⟨.nil, SeqAt.nil _, by simp [T.list], trivial⟩, Ext.refl _⟩
  case round =>
    obtain ⟨k, p, hk, rfl, rfl, ht, he⟩ := hrel
    have HT := Lib.hid ht
    have HE := Lib.hid he
    by_cases hlt : k < n
    · rcases HX.out.ext he with h0 | ⟨b, off, rfl, _, hc⟩
      · have := HL.out; subst h0; simp at this; omega
      have hkx : k < xs.length := by rw [HL.out]; exact hlt
      obtain ⟨x, hxx⟩ : ∃ x, xs[k]? = some x := ⟨_, List.getElem?_eq_getElem hkx⟩
      have c1 := hc k x hxx
      obtain ⟨t, h1, h2, h3⟩ := ht
      have HK := Lib.hid (link_any wr p none t .nil x h1 (SeqAt.nil _) (by have := size_of_list h2; simp at this; simp only [T.size]; omega))
      have H2 := Lib.hid h2
      have HXX := Lib.hid hxx
      clear hc hxx he h1 h2 hkx HT
      go_wp2_with fail
      refine HK.out.mono ?_
      rintro e w1 ⟨u, hu, p1, rfl, hs1, hx1⟩
      have HU : Hid (∃ t, SeqAt w1 p1 t ∧ t.list = xs.take (k + 1) ∧ Bal t) := ⟨u, hs1, by rw [hu.list, H2.out, take_snoc' HXX.out]; simp [T.list], hu.bal h3 trivial⟩
      have HX1 := Lib.hid (HE.out.trans hx1)
      clear hu hs1 hx1 HK
      go_wp2
      go_roundw
      case rel => exact ⟨k + 1, p1, by omega, by go_num, rfl, HU.out, HX1.out⟩
      case measure => simp [intOf]; omega
    · clear ht he
      go_wp2
      go_ret2
      obtain ⟨t, h1, h2, h3⟩ := HT.out
      exact ⟨t, p, ⟨by rw [h2, List.take_of_length_le (by rw [HL.out]; omega)], h3⟩, rfl, h1, HE.out⟩

set_option maxRecDepth 100000 in
set_option maxHeartbeats 1000000 in
theorem sjoin_no (w : World) (p q : Option Addr) (l r : T) (hl : SeqAt w p l) (hr : SeqAt w q r) (h1 : l.size ≤ 400) (h2 : r.size ≤ 400) (h : 400 < l.size + r.size) :
    Calls Tryz.prog 80 #[.pointer p, .pointer q] w fun e w' => e = .returned (.tuple #[.pointer none, errV 3]) ∧ w = w' := by
  have HL := Lib.hid hl
  have HR := Lib.hid hr
  have z : (400 : Int) < (l.size : Int) + (r.size : Int) := by omega
  clear hl hr
  go_enter Tryz.func80, Tryz.ntmps80
  go_wp2_with fail
  refine (len_any w p l HL.out).mono ?_
  rintro e w' ⟨rfl, rfl⟩
  go_wp2_with fail
  refine (len_any w q r HR.out).mono ?_
  rintro e w' ⟨rfl, rfl⟩
  go_wp2
  go_ret2
  exact ⟨rfl, rfl⟩
set_option maxRecDepth 100000 in
set_option maxHeartbeats 1000000 in
theorem sjoin_yes (w : World) (p q : Option Addr) (l r : T) (hl : SeqAt w p l) (hr : SeqAt w q r) (h : l.size + r.size ≤ 400) :
    Calls Tryz.prog 80 #[.pointer p, .pointer q] w (RowPost w (ListR (l.list ++ r.list) (Bal l ∧ Bal r))) := by
  have HL := Lib.hid hl
  have HR := Lib.hid hr
  have z : ¬ (400 : Int) < (l.size : Int) + (r.size : Int) := by omega
  clear hl hr
  go_enter Tryz.func80, Tryz.ntmps80
  go_wp2_with fail
  refine (len_any w p l HL.out).mono ?_
  rintro e w' ⟨rfl, rfl⟩
  go_wp2_with fail
  refine (len_any w q r HR.out).mono ?_
  rintro e w' ⟨rfl, rfl⟩
  go_wp2_with fail
  refine (both_any w p q l r HL.out HR.out (by omega)).mono ?_
  rintro e w1 ⟨u, hu, p1, rfl, hs1, hx1⟩
  have HU := Lib.hid hu
  have HS := Lib.hid hs1
  have HX := Lib.hid hx1
  clear hu hs1 hx1
  go_wp2
  go_ret2
  exact ⟨u, p1, HU.out, rfl, HS.out, HX.out⟩

def SplitPost3 (w : World) (t : T) (i : Nat) (e : Ending) (w' : World) : Prop := ∃ (lo hi : T) (p q : Option Addr), lo.list = t.list.take i ∧ hi.list = t.list.drop i ∧ (Bal t → Bal lo ∧ Bal hi) ∧
  e = .returned (.tuple #[.pointer p, .pointer q, .nilIface]) ∧ SeqAt w' p lo ∧ SeqAt w' q hi ∧ Ext w w'
set_option maxRecDepth 100000 in
set_option maxHeartbeats 1000000 in
theorem ssplit_no (w : World) (p : Option Addr) (t : T) (i : Int) (ht : SeqAt w p t) (hi : i < 0 ∨ (t.size : Int) < i) :
    Calls Tryz.prog 58 #[.pointer p, .int .i64 i] w fun e w' => e = .returned (.tuple #[.pointer none, .pointer none, errV 1]) ∧ w = w' := by
  have HT := Lib.hid ht
  clear ht
  by_cases h : i < 0
  · clear hi
    go_enter Tryz.func58, Tryz.ntmps58
    go_wp2
    go_ret3
    exact ⟨rfl, rfl⟩
  · have h2 : (t.size : Int) < i := by omega
    clear hi
    go_enter Tryz.func58, Tryz.ntmps58
    go_wp2_with fail
    refine (len_any w p t HT.out).mono ?_
    rintro e w' ⟨rfl, rfl⟩
    go_wp2
    go_ret3
    exact ⟨rfl, rfl⟩
set_option maxRecDepth 100000 in
set_option maxHeartbeats 1000000 in
theorem ssplit_yes (w : World) (p : Option Addr) (t : T) (i : Nat) (ht : SeqAt w p t) (hz : t.size ≤ 400) (hi : i ≤ t.size) :
    Calls Tryz.prog 58 #[.pointer p, .int .i64 i] w (SplitPost3 w t i) := by
  have HT := Lib.hid ht
  have HK := Lib.hid (split_any t w p i ht (by omega) hi)
  have z1 : ¬ (i : Int) < 0 := by omega
  have z2 : ¬ (t.size : Int) < (i : Int) := by omega
  have z3 : decide (t.size < i) = false := by simp only [decide_eq_false_iff_not]; omega
  clear ht
  go_enter Tryz.func58, Tryz.ntmps58
  go_wp2_with fail
  refine (len_any w p t HT.out).mono ?_
  rintro e w' ⟨rfl, rfl⟩
  go_wp2_with fail
  refine HK.out.mono ?_
  rintro e w1 ⟨lo, hi, p1, q1, h1, h2, h3, rfl, hs1, hs2, hx⟩
  have H : Hid (lo.list = t.list.take i ∧ hi.list = t.list.drop i ∧ (Bal t → Bal lo ∧ Bal hi) ∧ SeqAt w1 p1 lo ∧ SeqAt w1 q1 hi ∧ Ext w w1) := ⟨h1, h2, h3, hs1, hs2, hx⟩
  clear h1 h2 h3 hs1 hs2 hx HK
  go_wp2
  go_ret3
  obtain ⟨h1, h2, h3, h4, h5, h6⟩ := H.out
  exact ⟨lo, hi, p1, q1, h1, h2, h3, rfl, h4, h5, h6⟩

end Go.Proofs.YtgdbnjcnilnnmaaGreatDoor
