/-
  AsksAll's walk. Conditions: the events are read as 'EvsAt' says; errors.errorType's cell.
-/
import Derived.Test.YtenjblonepegfaaDoorRf4
import Derived.Test.YtenjblonepegfaaDoorRf5
import Derived.Test.YtenjblonepegfaaDoorAs8
import Derived.Test.YtenjblonepegfaaDoorTd2
namespace Go.Proofs.YtenjblonepegfaaDoor
open Go Go.RowKit
set_option linter.unusedVariables false

theorem AK.bad_ne {n : Int} {t : AK.Ed → Bool} {e : AK.Ev} {x : Int} (h : AK.bad n t e = some x) : x ≠ 0 := by
  unfold AK.bad at h
  split at h
  · injection h with h; omega
  split at h
  · cases h
  split at h
  · injection h with h; omega
  split at h
  · injection h with h; omega
  split at h
  · injection h with h; omega
  · cases h
theorem AK.chkFrom_ne {n : Int} : ∀ {l : List AK.Ev} {t : AK.Ed → Bool} {i : Nat} {x : Int}, (AK.chkFrom n t i l).2 = some x → x ≠ 0
  | [], t, i, x, h => by simp [AK.chkFrom] at h
  | e :: r, t, i, x, h => by
    rw [AK.chkFrom] at h
    cases hb : AK.bad n t e with
    | some y => rw [hb] at h; simp at h; subst h; exact AK.bad_ne hb
    | none => rw [hb] at h; exact AK.chkFrom_ne h
theorem AK.chk_ne {n : Int} {l : List AK.Ev} {x : Int} (h : (AK.chk n l).2 = some x) : x ≠ 0 := by
  unfold AK.chk at h
  split at h
  · simp at h; omega
  split at h
  · simp at h; omega
  · exact AK.chkFrom_ne h
theorem below_nx {a b c : World} (h : Below a.heap.size a b) (k : Below b.heap.size b c) : Below a.heap.size a c := h.trans (Below.mono k h.size)
set_option maxHeartbeats 4000000 in
set_option maxRecDepth 100000 in
theorem aa_walk (n : Int) (a : Option Addr) (len cap : Nat) (l : List AK.Ev) (W : World) (hd : Td.Door W) (h : EvsAt W a l ∧ l.length = len ∧ len ≤ cap ∧ cap ≤ maxLen ∧ (a = none → len = 0 ∧ cap = 0)) :
    Calls Tryd.prog 5 #[.int .i64 n, .slice a len cap] W fun e w' => e = .returned (.bool true) ∧ Below W.heap.size W w' := by
  obtain ⟨hE, hl, hlc, hcm, _⟩ := h
  unfold maxLen at hcm
  have HE := Lib.hid hE
  have HL := Lib.hid hl
  have HD := Lib.hid hd
  clear hE hl hd
  obtain ⟨o, ho⟩ : ∃ o, (AK.chk n l).2 = o := ⟨_, rfl⟩
  have HO := Lib.hid ho
  go_enter Tryd.func5, Tryd.ntmps5
  go_wp2_with fail
  refine (efault_any W n a len cap l HL.out (by omega) HE.out).mono ?_
  rintro e w1 ⟨rfl, hb1⟩
  have HB1 := Lib.hid hb1
  rw [ho]
  clear hb1
  go_wp2_with fail
  refine (chk_any w1 n a len cap l HL.out (by omega) (HE.out.ext HB1.out)).mono ?_
  rintro e w2 ⟨rfl, hb2⟩
  have HB2 := Lib.hid (below_nx HB1.out hb2)
  rw [ho]
  clear hb2 ho HB1
  obtain ⟨i, hi⟩ : ∃ i, (AK.chk n l).1 = i := ⟨_, rfl⟩
  rw [hi]
  clear hi
  cases o with
  | some x =>
    have hx0 : (x == 0) = false := by rw [beq_eq_false_iff_ne]; exact AK.chk_ne HO.out
    rw [show (some x).getD 0 = x from rfl, show oErr (some x) = aerrV x from rfl]
    go_wp2_with fail
    refine (same_errno w2 x x (HD.out.new HB2.out) true (by simp)).mono ?_
    rintro e w3 ⟨rfl, hb3⟩
    have HB3 := Lib.hid (below_nx HB2.out hb3)
    clear hb3
    go_wp2_with fail
    refine (answers_no w3 n a len cap l HL.out (by omega) (HE.out.ext HB3.out) x HO.out).mono ?_
    rintro e w4 ⟨rfl, hb4⟩
    have HB4 := Lib.hid (below_nx HB3.out hb4)
    clear hb4
    go_wp2_with fail
    refine (same_errno w4 x x (HD.out.new HB4.out) true (by simp)).mono ?_
    rintro e w5 ⟨rfl, hb5⟩
    have HB5 := Lib.hid (below_nx HB4.out hb5)
    clear hb5
    go_wp2_with fail
    refine (bools_any w5 none none 0 0 0 0 [] [] (.inl rfl) (.inl rfl) rfl rfl (by omega) (by omega) true (by simp)).mono ?_
    rintro e w6 ⟨rfl, hb6⟩
    have HB6 := Lib.hid (below_nx HB5.out hb6)
    clear hb6
    go_wp2_with fail
    refine (spans_no w6 n a len cap l HL.out (by omega) (HE.out.ext HB6.out) x HO.out).mono ?_
    rintro e w7 ⟨rfl, hb7⟩
    have HB7 := Lib.hid (below_nx HB6.out hb7)
    clear hb7
    go_wp2_with fail
    refine (same_errno w7 x x (HD.out.new HB7.out) true (by simp)).mono ?_
    rintro e w8 ⟨rfl, hb8⟩
    have HB8 := Lib.hid (below_nx HB7.out hb8)
    clear hb8
    go_wp2_with fail
    refine (twos_any w8 none none 0 0 0 [] (.inl rfl) (.inl rfl) rfl (by omega) (by simp)).mono ?_
    rintro e w9 ⟨rfl, hb9⟩
    have HB9 := Lib.hid (below_nx HB8.out hb9)
    clear hb9
    go_wp2
    go_ret
    exact ⟨rfl, HB9.out⟩
  | none =>
    have hg := AK.good_iff.1 HO.out
    have HG := Lib.hid hg
    have hlen : len ≤ 120 := by have := hg.2.2.1; have := HL.out; omega
    obtain ⟨m, rfl⟩ := Int.eq_ofNat_of_zero_le (show 0 ≤ n by have := hg.1; omega)
    clear hg HO
    rw [show (none : Option Int).getD 0 = 0 from rfl, show oErr none = .nilIface from rfl]
    go_wp2_with fail
    refine (same_nil w2 0 true rfl).mono ?_
    rintro e w3 ⟨rfl, hb3⟩
    have HB3 := Lib.hid (below_nx HB2.out hb3)
    clear hb3
    go_wp2_with fail
    refine (ranswers_any w3 m a len cap l HL.out (HE.out.ext HB3.out) HG.out).mono ?_
    rintro e w4 ⟨A4, q4, c4, rfl, hq4, hr4, hb4⟩
    have hql : (AK.answers l).length = q4 := by have := hr4.1; simp at this; omega
    have HQ4 := Lib.hid hql
    have HR4 := Lib.hid (BoolsAt.of_own hr4).1
    have HB4 := Lib.hid (below_nx HB3.out hb4)
    clear hb4 hr4 hql
    go_wp2_with fail
    refine (rspans_any w4 a len cap l HL.out hlen (HE.out.ext HB4.out)).mono ?_
    rintro e w5 ⟨A5, q5, c5, L5, rfl, hs5⟩
    have hL5 : L5 = AK.lfSpans l := hs5.sp.uniq (AK.lives_spans HG.out)
    subst hL5
    have HN5 := Lib.hid hs5.len
    have HR5 := Lib.hid (TwosAt.of_own hs5.row hs5.len).1
    have HS5 := Lib.hid hs5.bel
    have HB5 := Lib.hid (below_nx HB4.out hs5.bel)
    have HR4' := Lib.hid (HR4.out.ext hs5.bel)
    clear hs5
    go_wp2_with fail
    refine (answers_yes w5 m a len cap l HL.out (HE.out.ext HB5.out) HG.out).mono ?_
    rintro e w6 ⟨A6, c6, rfl, hr6, hb6, _⟩
    rw [HQ4.out] at hr6 ⊢
    have HR6 := Lib.hid (BoolsAt.of_own hr6).1
    have HB6 := Lib.hid (below_nx HB5.out hb6)
    have HR46 := Lib.hid (HR4'.out.ext hb6)
    have HR56 := Lib.hid (HR5.out.ext hb6)
    clear hr6 hb6
    go_wp2_with fail
    refine (same_nil w6 0 true rfl).mono ?_
    rintro e w7 ⟨rfl, hb7⟩
    have HB7 := Lib.hid (below_nx HB6.out hb7)
    have HR67 := Lib.hid (HR6.out.ext hb7)
    have HR47 := Lib.hid (HR46.out.ext hb7)
    have HR57 := Lib.hid (HR56.out.ext hb7)
    clear hb7
    go_wp2_with fail
    refine (bools_any w7 A6 A4 q4 q4 c6 c4 (AK.answers l) (AK.answers l) HR67.out HR47.out HQ4.out HQ4.out (by omega) (by omega) true (by simp)).mono ?_
    rintro e w8 ⟨rfl, hb8⟩
    have HB8 := Lib.hid (below_nx HB7.out hb8)
    have HR58 := Lib.hid (HR57.out.ext hb8)
    clear hb8
    go_wp2_with fail
    refine (spans_yes w8 m a len cap l HL.out (HE.out.ext HB8.out) HG.out).mono ?_
    rintro e w9 ⟨A9, q9, c9, rfl, hr9, hl9, hq9, hb9⟩
    obtain rfl : q9 = q5 := by rw [← hl9]; exact HN5.out
    have HR9 := Lib.hid (TwosAt.of_own hr9 hl9).1
    have HB9 := Lib.hid (below_nx HB8.out hb9)
    have HR59 := Lib.hid (HR58.out.ext hb9)
    clear hr9 hl9 hb9
    go_wp2_with fail
    refine (same_nil w9 0 true rfl).mono ?_
    rintro e w10 ⟨rfl, hb10⟩
    have HB10 := Lib.hid (below_nx HB9.out hb10)
    have HR10 := Lib.hid (HR9.out.ext hb10)
    have HR510 := Lib.hid (HR59.out.ext hb10)
    have HPB : Hid (∀ p ∈ AK.lfSpans l, p.1 ≤ 1000000 ∧ p.2 ≤ 1000000) := fun p hp => by
      obtain ⟨x, hx, rfl⟩ := List.mem_map.1 hp
      have := pr_in HG.out x hx
      exact ⟨by simp only; omega, by simp only; omega⟩
    clear hb10
    go_wp2_with fail
    refine (twos_any w10 A9 A5 q9 c9 c5 (AK.lfSpans l) HR10.out HR510.out HN5.out (by omega) HPB.out).mono ?_
    rintro e w11 ⟨rfl, hb11⟩
    have HB11 := Lib.hid (below_nx HB10.out hb11)
    clear hb11
    go_wp2
    go_ret
    exact ⟨rfl, HB11.out⟩
end Go.Proofs.YtenjblonepegfaaDoor
