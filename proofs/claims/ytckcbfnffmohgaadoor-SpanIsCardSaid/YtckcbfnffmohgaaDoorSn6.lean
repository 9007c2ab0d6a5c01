/-
  span.Weight. Condition: the edges lie in memory as 'HvAt' says.
-/
import Derived.Test.YtckcbfnffmohgaaDoorSn5
namespace Go.Proofs.YtckcbfnffmohgaaDoor
open Go Go.RowKit Go.Lib NK
set_option linter.unusedVariables false

namespace NK
/-- The weights of numbers together. -/
def wsum (L : List He) (xs : List Int) : Int := (xs.map (wtH L)).sum
theorem wsum_nil (L : List He) : wsum L [] = 0 := rfl
theorem wsum_snoc (L : List He) (xs : List Int) (x : Int) : wsum L (xs ++ [x]) = wsum L xs + wtH L x := by unfold wsum; simp
theorem wtH_in {n : Int} {L : List He} (h : OkH n L) (i : Nat) : 0 ≤ wtH L (i : Int) ∧ wtH L (i : Int) ≤ 1000000 := by
  unfold wtH
  rw [Int.toNat_natCast, List.getD_eq_getElem?_getD]
  by_cases c : i < L.length
  · rw [List.getElem?_eq_getElem c]
    have := h.ok _ (List.getElem_mem c)
    simp only [Option.getD_some]; omega
  · rw [List.getElem?_eq_none (by omega)]; simp
theorem wsum_in {n : Int} {L : List He} (h : OkH n L) : ∀ (xs : List Int), (∀ x ∈ xs, 0 ≤ x) → 0 ≤ wsum L xs ∧ wsum L xs ≤ 1000000 * (xs.length : Int)
  | [], _ => by simp [wsum]
  | x :: xs, hx => by
    obtain ⟨i, rfl⟩ := Int.eq_ofNat_of_zero_le (hx x (List.mem_cons_self ..))
    have h1 := wtH_in h i
    have h2 := wsum_in h xs fun y hy => hx y (List.mem_cons_of_mem _ hy)
    have h3 : wsum L ((i : Int) :: xs) = wtH L (i : Int) + wsum L xs := by unfold wsum; simp
    rw [h3, List.length_cons]
    omega
end NK
def WtPost (w : World) (n : Int) (L : List He) (e : Ending) (w' : World) : Prop := Ext w w' ∧ (((hvF n L).2 ≠ 0 ∧ e = .returned (.tuple #[.int .i64 0, errVU (hvF n L).2])) ∨ (OkH n L ∧ e = .returned (.tuple #[.int .i64 (wsum L (spanH L)), .nilIface])))
set_option maxHeartbeats 1000000 in
set_option maxRecDepth 100000 in
theorem weight_any (w : World) (n : Int) (A : Option Addr) (len c : Nat) (L : List He) (hl : L.length = len) (hlm : len ≤ 9223372036854775807) (h : HvAt w A L) :
    Calls Tryd.prog 10 #[.int .i64 n, .slice A len c] w (WtPost w n L) := by
  have H := Lib.hid h
  have HL := Lib.hid hl
  clear h hl
  go_enter Tryd.func10, Tryd.ntmps10
  go_wp2_with fail
  go_at_call 8
  refine (span_any w n A len c L HL.out hlm H.out).mono ?_
  rintro e w1 ⟨hx1, ⟨hq, rfl⟩ | ⟨hok, _, R, cr, rfl, hr, hrn⟩⟩
  · have HP : Hid (WtPost w n L (.returned (.tuple #[.int .i64 0, errVU (hvF n L).2])) w1) := ⟨hx1, .inl ⟨hq, rfl⟩⟩
    generalize (hvF n L).2 = q at HP ⊢
    clear hq hx1
    go_wp2
    refine wp_loop_rounds 1 ?_
    rw [rounds_succ]
    go_wp2
    go_ret2
    exact HP.out
  · have HP : Hid (WtPost w n L (.returned (.tuple #[.int .i64 (wsum L (spanH L)), .nilIface])) w1) := ⟨hx1, .inr ⟨hok, rfl⟩⟩
    have HO := Lib.hid hok
    obtain ⟨xs, hxs⟩ : ∃ xs, spanH L = xs := ⟨_, rfl⟩
    have HXI : Hid (∀ x ∈ xs, ∃ i : Nat, i < len ∧ x = (i : Int)) := fun x hx => by
      rw [← hxs] at hx
      obtain ⟨i, h1, _, h3⟩ := mem_spanH.1 hx
      exact ⟨i, by rw [← HL.out]; exact h1, h3.symm⟩
    have hxl : xs.length ≤ 200 := by rw [← hxs]; have := spanH_len L; have := hok.len; omega
    rw [hxs] at HP hr ⊢
    obtain ⟨hI, _⟩ := IntsAt.of_own hr
    have HI := Lib.hid hI
    have HV := Lib.hid (H.out.ext hx1)
    clear hr hrn hx1 hok hI hxs
    go_wp2
    go_loopw [8, 19] (fun v8 v19 wr => ∃ k : Nat, k ≤ xs.length ∧ v8 = .int .i64 (wsum L (xs.take k)) ∧ v19 = .int .i64 k ∧ wr = w1) (fun _ v19 _ => xs.length - (intOf v19).toNat)
    case atStart => exact ⟨0, Nat.zero_le _, rfl, rfl, rfl⟩
    case round =>
      obtain ⟨k, hk, rfl, rfl, rfl⟩ := hrel
      by_cases c : k < xs.length
      · have hgx : xs[k]? = some xs[k] := List.getElem?_eq_getElem c
        obtain ⟨i, hi, hxi⟩ := HXI.out _ (List.getElem_mem c)
        rw [hxi] at hgx
        rcases HI.out with h0 | ⟨gr, ofr, rfl, _, hcr⟩
        · rw [h0] at c; simp at c
        have r1 := hcr k _ hgx
        obtain ⟨bs, off, x, rfl, hbs, hx, _, _, a2⟩ := HV.out.at_ (i := i) (by rw [HL.out]; exact hi)
        have hst : wsum L (xs.take (k + 1)) = wsum L (xs.take k) + x.2 := by
          rw [List.take_add_one, hgx, Option.toList_some, wsum_snoc, wtH_at hx]
        have hb := wsum_in HO.out (xs.take k) fun y hy => by
          obtain ⟨j, _, e⟩ := HXI.out y (List.mem_of_mem_take hy)
          omega
        have hbl : (xs.take k).length ≤ k := by rw [List.length_take]; omega
        have hxo := HO.out.ok x (List.mem_of_getElem? hx)
        have HS := Lib.hid hst
        obtain ⟨⟨x1, x2⟩, x3⟩ := x
        simp only at a2 hxo HS
        generalize wsum L (xs.take k) = s at hb HS ⊢
        have hkz : (k : Int) < (xs.length : Int) := by omega
        have hkg : (0 : Int) ≤ (k : Int) := by omega
        have hiz : (i : Int) < (len : Int) := by omega
        have hig : (0 : Int) ≤ (i : Int) := by omega
        have rw1 : IntKind.i64.wrap (s + x3) = s + x3 := IntWalk.i64_in _ (by omega)
        clear hst hgx hcr hx hxo hb hxi
        go_wp2
        go_roundw
        case rel => exact ⟨k + 1, by omega, by rw [HS.out], by go_num, by first | rfl | trivial⟩
        case measure => simp [intOf]; omega
      · obtain rfl : k = xs.length := by omega
        have hkz : ¬ (xs.length : Int) < (xs.length : Int) := by omega
        rw [List.take_length]
        go_wp2
        go_ret2
        exact HP.out
end Go.Proofs.YtckcbfnffmohgaaDoor
