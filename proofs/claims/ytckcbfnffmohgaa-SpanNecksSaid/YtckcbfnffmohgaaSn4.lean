/-
  No narrower by a third: the walk of SpanNecks. Condition: the edges lie in memory as 'HvAt' says.
-/
import Derived.Test.YtckcbfnffmohgaaSn3
namespace Go.Proofs.Ytckcbfnffmohgaa
open Go Go.RowKit Go.Lib NK
set_option linter.unusedVariables false

def factN : List He := [((0, 1), 5), ((1, 2), 2)]
theorem factN_ok : OkH 3 factN := ⟨by omega, by omega, by decide, fun x hx => by
  simp only [factN, List.mem_cons, List.not_mem_nil, or_false] at hx
  rcases hx with rfl | rfl <;> decide⟩
theorem factN_le : UF.Con (leH factN 5) 0 2 := by
  have h1 : (0, 1) ∈ leH factN 5 := by decide
  have h2 : (1, 2) ∈ leH factN 5 := by decide
  exact (UF.Con.edge h1).trans (.edge h2)
theorem factN_nk : Nk factN 0 2 5 := by
  refine ⟨factN_le, fun c => ?_⟩
  have := UF.Con.ind (f := fun x => if x = 0 then 0 else 1) (fun x y hm => by
    have : ltH factN 5 = [(1, 2)] := by decide
    rw [this] at hm
    simp only [List.mem_singleton, Prod.mk.injEq] at hm
    obtain ⟨rfl, rfl⟩ := hm
    rfl) c
  simp at this
theorem factN_x {x k : Int} (h : NeckX 3 factN 0 2 x k) : x = 5 ∧ k = 0 := by
  cases h with
  | bad h => exact absurd (okH_of.2 factN_ok) h
  | range _ k => exact absurd ⟨⟨by omega, by omega⟩, by omega, by omega⟩ k
  | self _ _ e => omega
  | none _ _ _ c => exact absurd (le_all factN_le) c
  | some _ _ _ _ c => exact ⟨c.uniq factN_nk, rfl⟩
theorem factN_at {w w0 : World} {t : TypeId} (h : Blk w0 w.heap.size t #[.int .i64 0, .int .i64 1, .int .i64 5, .int .i64 1, .int .i64 2, .int .i64 2]) : HvAt w0 (some ⟨w.heap.size, 0, none⟩) factN := by
  refine .inr ⟨_, 0, rfl, h.lt, fun i x hx => ?_⟩
  match i, hx with
  | 0, hx => simp [factN] at hx; subst hx; exact ⟨h.cell 0, h.cell 1, h.cell 2⟩
  | 1, hx => simp [factN] at hx; subst hx; exact ⟨h.cell 3, h.cell 4, h.cell 5⟩
  | i + 2, hx => simp [factN] at hx

set_option maxHeartbeats 2000000 in
set_option maxRecDepth 100000 in
theorem sn_walk (n : Int) (a1 : Option Addr) (len1 cap1 : Nat) (L : List He) (a b c : Int) (w : World) (h1 : HvAt w a1 L ∧ L.length = len1 ∧ len1 ≤ cap1 ∧ cap1 ≤ maxLen) :
    Calls Try.prog 3 #[.int .i64 n, .slice a1 len1 cap1, .int .i64 a, .int .i64 b, .int .i64 c] w fun e w' => e = .returned (.bool true) ∧ Below w.heap.size w w' := by
  obtain ⟨hH, hl, hlc, hcm⟩ := h1
  have hcm' : len1 ≤ 9223372036854775807 := by unfold maxLen at hcm; omega
  have HN : Hid (∀ W, Ext w W → ∀ p q : Int, Calls Try.prog 5 #[.int .i64 n, .slice a1 len1 cap1, .int .i64 p, .int .i64 q] W (NeckPost W n L p q)) := fun W hW p q => neck_any W n a1 len1 cap1 L p q hl hcm' (hH.ext hW)
  clear hH hl hlc hcm hcm'
  go_enter Try.func3, Try.ntmps3
  go_wp2_with fail
  obtain ⟨w0, hw0⟩ : ∃ w0, w.alloc (.cells #[.int .i64 0, .int .i64 1, .int .i64 5, .int .i64 1, .int .i64 2, .int .i64 2] 30) = w0 := ⟨_, rfl⟩
  have hB0 : Blk w0 w.heap.size 30 #[.int .i64 0, .int .i64 1, .int .i64 5, .int .i64 1, .int .i64 2, .int .i64 2] := by subst hw0; exact Blk.new _ _ _
  have X0 : Hid (Ext w w0) := by subst hw0; exact Ext.alloc _ _
  rw [hw0]
  clear hw0
  have HF := Lib.hid (neck_any w0 3 _ 2 2 factN 0 2 rfl (by decide) (factN_at hB0))
  clear hB0
  refine HF.out.mono ?_
  rintro e w1 ⟨x, k, rfl, hx, hx1⟩
  obtain ⟨rfl, rfl⟩ := factN_x hx
  have X1 : Hid (Ext w w1) := Ext.trans X0.out hx1
  clear hx hx1 HF X0
  rw [show errH 0 = .nilIface from rfl]
  go_wp2_with fail
  refine (HN.out w1 X1.out a b).mono ?_
  rintro e w2 ⟨x, k, rfl, hx, hx2⟩
  have X2 : Hid (Ext w w2) := Ext.trans X1.out hx2
  have N2 := Lib.hid hx.say
  clear hx hx2 X1
  go_wp2_with fail
  refine (HN.out w2 X2.out b a).mono ?_
  rintro e w3 ⟨y, k', rfl, hy, hx3⟩
  have X3 : Hid (Ext w w3) := Ext.trans X2.out hx3
  obtain ⟨ho, rfl⟩ := N2.out.back hy.say
  have HK : Hid (k = 0 ↔ k' = 0) := by
    rw [Hid, ← decide_eq_decide]; exact ho
  have N3 := Lib.hid hy
  clear hy hx3 X2 ho
  by_cases hk : k = 0
  · obtain rfl := HK.out.1 hk
    subst hk
    rw [show errH 0 = .nilIface from rfl]
    go_wp2_with fail
    go_quiet (fail)
    have X4 : Hid (Ext w (w3.drewN nq)) := Ext.trans X3.out (Ext.drewN _ _)
    generalize w3.drewN nq = w4 at X4 ⊢
    go_wp2_with fail
    refine (HN.out w4 X4.out b c).mono ?_
    rintro e w5 ⟨z, k5, rfl, hz, hx5⟩
    have X5 : Hid (Ext w w5) := Ext.trans X4.out hx5
    have N5 := Lib.hid hz.say
    clear hz hx5 X4 X3
    by_cases hk5 : k5 = 0
    · subst hk5
      rw [show errH 0 = .nilIface from rfl]
      go_wp2_with fail
      refine (HN.out w5 X5.out a c).mono ?_
      rintro e w6 ⟨v, k6, rfl, hv, hx6⟩
      have X6 : Hid (Ext w w6) := Ext.trans X5.out hx6
      obtain ⟨ho, hv2⟩ := N2.out.tri N5.out hv.say
      obtain rfl : k6 = 0 := of_decide_eq_true ho
      clear hx6 X5 hv ho
      rw [show errH 0 = .nilIface from rfl]
      by_cases hzx : x < z
      · have g1 : decide (v ≤ z) = true := decide_eq_true (by omega)
        have HVZ : Hid (decide (v ≤ z) = true) := g1
        clear g1 hv2
        go_wp2
        go_ret
        exact ⟨ret_bool HVZ.out, X6.out⟩
      · have HVZ : Hid (decide (v ≤ x) = true) := decide_eq_true (by omega)
        clear hv2
        go_wp2
        go_ret
        exact ⟨ret_bool HVZ.out, X6.out⟩
    · rw [errH_ne hk5]
      go_wp2
      go_ret
      exact ⟨rfl, X5.out⟩
  · have hk' : ¬ k' = 0 := fun q => hk (HK.out.2 q)
    rw [errH_ne hk, errH_ne hk']
    have HNK := Lib.hid hk
    clear hk hk' HK
    go_wp2_with fail
    go_quiet (fail)
    have X4 : Hid (Ext w (w3.drewN nq)) := Ext.trans X3.out (Ext.drewN _ _)
    generalize w3.drewN nq = w4 at X4 ⊢
    go_wp2_with fail
    refine (HN.out w4 X4.out b c).mono ?_
    rintro e w5 ⟨z, k5, rfl, hz, hx5⟩
    have X5 : Hid (Ext w w5) := Ext.trans X4.out hx5
    clear hz hx5 X4 X3
    by_cases hk5 : k5 = 0
    · subst hk5
      rw [show errH 0 = .nilIface from rfl]
      go_wp2
      go_ret
      exact ⟨rfl, X5.out⟩
    · rw [errH_ne hk5]
      go_wp2
      go_ret
      exact ⟨rfl, X5.out⟩
end Go.Proofs.Ytckcbfnffmohgaa
