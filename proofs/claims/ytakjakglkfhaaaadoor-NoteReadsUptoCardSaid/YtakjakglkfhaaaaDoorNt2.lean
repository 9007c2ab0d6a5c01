/-
  Walks of strings.Cut at a blank, of note.Text. Condition: a string's size is an int.
-/
import Derived.Test.YtakjakglkfhaaaaDoorNt1
import Derived.Test.YtakjakglkfhaaaaDoorShl
import Derived.WalkKit
import Derived.ProofKit
import Derived.WalkSpells
import Derived.Lib.Hide
import Derived.Outline
import Derived.BigQuiet
import Derived.Deep.QuietTactic
import Derived.Deep.Slices
namespace Go.Proofs.YtakjakglkfhaaaaDoor
open Go Go.RowKit
set_option linter.unusedVariables false

def CtPost (s : ByteArray) (w : World) (e : Ending) (w' : World) : Prop := ∃ a b f, e = .returned (.tuple #[.string a, .string b, .bool f]) ∧ a.data.toList = NT.cutA s.data.toList ∧ b.data.toList = NT.cutB s.data.toList ∧ Ext w w'
theorem str_take (s : ByteArray) (k : Nat) (h : k ≤ s.size) : (s.extract 0 k).data.toList = s.data.toList.take k := by
  simp [ByteArray.data_extract, Array.toList_extract]
theorem str_drop (s : ByteArray) (k : Nat) (h : k ≤ s.size) : (s.extract k s.size).data.toList = s.data.toList.drop k := by
  have e : s.size = s.data.toList.length := by rw [Array.length_toList]; rfl
  simp only [ByteArray.data_extract, Array.toList_extract, List.extract_eq_take_drop]
  rw [List.take_of_length_le]
  rw [List.length_drop, ← e]
  exact Nat.le_refl _
set_option maxHeartbeats 1000000 in
theorem lcut_any (s : ByteArray) (hs : s.size ≤ 4611686018427387904) (w : World) : Calls Tryd.prog 55 #[.string s, .string ⟨#[32]⟩] w (CtPost s w) := by
  have hI := sh_stringslite_Index_one s 32 w
  have e0 : s.size = s.data.toList.length := by rw [Array.length_toList]; rfl
  obtain ⟨k1, k2⟩ := NT.idx_cut s.data.toList
  have hge := Lib.indexByte_ge s.data.toList 32
  obtain ⟨i, hi⟩ : ∃ i, Lib.indexByte s.data.toList 32 = i := ⟨_, rfl⟩
  rw [hi] at hI k1 k2 hge
  have HI := Lib.hid hI
  clear hI hi
  by_cases h : 0 ≤ i
  · obtain ⟨k, rfl⟩ := Int.eq_ofNat_of_zero_le h
    obtain ⟨h1, h2, h3⟩ := k2 h
    simp only [Int.toNat_natCast] at h1 h2 h3
    have hks : k < s.size := by omega
    have HP : Hid (CtPost s w (.returned (.tuple #[.string (s.extract 0 k), .string (s.extract (k + 1) s.size), .bool true])) w ∧ ∀ q, CtPost s w (.returned (.tuple #[.string (s.extract 0 k), .string (s.extract (k + 1) s.size), .bool true])) (w.drewN q)) :=
      ⟨⟨_, _, _, rfl, by rw [str_take _ _ (by omega), h2], by rw [str_drop _ _ (by omega), h3], Ext.refl _⟩, fun q => ⟨_, _, _, rfl, by rw [str_take _ _ (by omega), h2], by rw [str_drop _ _ (by omega), h3], Ext.drewN _ _⟩⟩
    have g1 : (k : Int) ≤ (s.size : Int) := by omega
    have g2 : (k : Int) + 1 ≤ (s.size : Int) := by omega
    have g3 : (0 : Int) ≤ (k : Int) := by omega
    have g4 : ((k : Int) + 1).toNat = k + 1 := by omega
    have g5 : ((1 : Nat) : Int) = 1 := rfl
    have g6 : (⟨#[32]⟩ : ByteArray).size = 1 := rfl
    clear k1 k2 h1 h2 h3 e0
    go_enter Tryd.func55, Tryd.ntmps55
    go_wp2_with fail
    refine HI.out.mono ?_
    rintro e w' ⟨rfl, rfl⟩
    go_wp2
    go_quiet (fail)
    go_wp2
    go_ret3
    exact HP.out.2 _
  · have hi1 : i = -1 := by omega
    obtain ⟨h1, h2⟩ := k1 hi1
    have HP : Hid (CtPost s w (.returned (.tuple #[.string s, .string ⟨#[]⟩, .bool false])) w) := ⟨_, _, _, rfl, h1.symm, by rw [h2], Ext.refl _⟩
    subst hi1
    clear k1 k2 h1 h2 e0 hge
    go_enter Tryd.func55, Tryd.ntmps55
    go_wp2_with fail
    refine HI.out.mono ?_
    rintro e w' ⟨rfl, rfl⟩
    go_wp2
    go_ret3
    exact HP.out
set_option maxHeartbeats 1000000 in
theorem cut_any (s : ByteArray) (hs : s.size ≤ 4611686018427387904) (w : World) : Calls Tryd.prog 41 #[.string s, .string ⟨#[32]⟩] w (CtPost s w) := by
  go_enter Tryd.func41, Tryd.ntmps41
  go_wp2_with fail
  refine (lcut_any s hs w).mono ?_
  rintro e w' ⟨a, b, f, rfl, h1, h2, h3⟩
  have HP : Hid (CtPost s w (.returned (.tuple #[.string a, .string b, .bool f])) w') := ⟨a, b, f, rfl, h1, h2, h3⟩
  clear h1 h2 h3
  go_wp2
  go_ret3
  exact HP.out
theorem txt_str {c : UInt8} {la lb : List UInt8} {x : ByteArray} (hx : x.data.toList = [c]) : x ++ ⟨la.toArray⟩ ++ ⟨#[32]⟩ ++ ⟨lb.toArray⟩ = (⟨(c :: (la ++ 32 :: lb)).toArray⟩ : ByteArray) := by
  apply ByteArray.ext
  apply Array.toList_inj.1
  simp [hx]
/-! ### Text -/
/-- What is wrong with an event by itself. -/
def evBad (W A B : Int) : Bool := decide (W < 1 ∨ 3 < W ∨ A < 0 ∨ 60 ≤ A ∨ B < 0 ∨ 60 ≤ B)
def TxPost (W A B : Int) (w : World) (e : Ending) (w' : World) : Prop := Ext w w' ∧ ((evBad W A B = true ∧ e = .returned (.tuple #[.string ⟨#[]⟩, .iface 26 (.int .i64 1)])) ∨ (evBad W A B = false ∧ ∃ W' A' B' : Nat, W = W' ∧ A = A' ∧ B = B' ∧ NT.Vd W' A' B' ∧ e = .returned (.tuple #[.string ⟨(NT.txt W' A' B').toArray⟩, .nilIface])))
set_option maxHeartbeats 2000000 in
theorem text_bad (W A B : Int) (h : evBad W A B = true) (w : World) : Calls Tryd.prog 17 #[.agg #[.int .i64 W, .int .i64 A, .int .i64 B]] w (TxPost W A B w) := by
  have HP : Hid (∀ w', Ext w w' → TxPost W A B w (.returned (.tuple #[.string ⟨#[]⟩, .iface 26 (.int .i64 1)])) w') := fun w' hx => ⟨hx, .inl ⟨h, rfl⟩⟩
  have h' : W < 1 ∨ 3 < W ∨ A < 0 ∨ 60 ≤ A ∨ B < 0 ∨ 60 ≤ B := by simpa [evBad] using h
  clear h
  by_cases c1 : W < 1
  · clear h'
    go_enter Tryd.func17, Tryd.ntmps17
    go_wp2
    go_ret2
    exact HP.out _ (Ext.alloc _ _)
  by_cases c2 : 3 < W
  · clear h'
    go_enter Tryd.func17, Tryd.ntmps17
    go_wp2
    go_ret2
    exact HP.out _ (Ext.alloc _ _)
  by_cases c3 : A < 0
  · clear h'
    go_enter Tryd.func17, Tryd.ntmps17
    go_wp2
    go_ret2
    exact HP.out _ (Ext.alloc _ _)
  by_cases c4 : 60 ≤ A
  · clear h'
    go_enter Tryd.func17, Tryd.ntmps17
    go_wp2
    go_ret2
    exact HP.out _ (Ext.alloc _ _)
  by_cases c5 : B < 0
  · clear h'
    go_enter Tryd.func17, Tryd.ntmps17
    go_wp2
    go_ret2
    exact HP.out _ (Ext.alloc _ _)
  have c6 : 60 ≤ B := by omega
  clear h'
  go_enter Tryd.func17, Tryd.ntmps17
  go_wp2
  go_ret2
  exact HP.out _ (Ext.alloc _ _)
set_option maxHeartbeats 2000000 in
theorem text_ok (W A B : Nat) (h : NT.Vd W A B) (w : World) : Calls Tryd.prog 17 #[.agg #[.int .i64 W, .int .i64 A, .int .i64 B]] w fun e w' => e = .returned (.tuple #[.string ⟨(NT.txt W A B).toArray⟩, .nilIface]) ∧ Ext w w' := by
  have ha := h.a
  have hb := h.b
  obtain ⟨la, hla⟩ : ∃ t, Lib.decDigits A = t := ⟨_, rfl⟩
  obtain ⟨lb, hlb⟩ : ∃ t, Lib.decDigits B = t := ⟨_, rfl⟩
  have sa : la.length ≤ 2 := by rw [← hla]; exact (NT.dec_all A ha).2.2
  have sb : lb.length ≤ 2 := by rw [← hlb]; exact (NT.dec_all B hb).2.2
  have HA : Hid (∀ w, Calls Tryd.prog 38 #[.int .i64 (A : Int)] w fun e w' => e = .returned (.string ⟨la.toArray⟩) ∧ w' = w) := fun w => by rw [← hla]; exact sh_strconv_Itoa_small A (by omega) w
  have HB : Hid (∀ w, Calls Tryd.prog 38 #[.int .i64 (B : Int)] w fun e w' => e = .returned (.string ⟨lb.toArray⟩) ∧ w' = w) := fun w => by rw [← hlb]; exact sh_strconv_Itoa_small B (by omega) w
  have HE : Hid (NT.txt W A B = NT.sg W :: (la ++ 32 :: lb)) := by rw [Hid, NT.txt, hla, hlb]
  have w1 := h.w1
  have w3 := h.w3
  have hW : W = 1 ∨ W = 2 ∨ W = 3 := by omega
  have sa' : (⟨la.toArray⟩ : ByteArray).size = la.length := by simp [ByteArray.size]
  have sb' : (⟨lb.toArray⟩ : ByteArray).size = lb.length := by simp [ByteArray.size]
  clear h hla hlb w1 w3
  rcases hW with rfl | rfl | rfl
  all_goals
    go_enter Tryd.func17, Tryd.ntmps17
    go_wp2
    go_quiet (first
      | ((go_at_call 38; with_reducible exact Calls.quiet_of_same (HA.out _)))
      | ((go_at_call 38; with_reducible exact Calls.quiet_of_same (HB.out _))))
    go_wp2
    go_ret2
    refine ⟨congrArg (fun z => Ending.returned (.tuple #[.string z, .nilIface])) ?_, Ext.trans (Ext.alloc _ _) (Ext.drewN _ _)⟩
    rw [HE.out]
    exact txt_str (by decide)
end Go.Proofs.YtakjakglkfhaaaaDoor
