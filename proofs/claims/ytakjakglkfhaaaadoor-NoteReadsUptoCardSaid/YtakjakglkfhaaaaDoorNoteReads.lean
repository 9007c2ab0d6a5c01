/-
  NoteReads returns true for whatever arguments of bulk at most 1048576, and leaves its arguments as they were. Condition: six package variables hold what the program's start lays in them (the card ties that).
-/
import Derived.Test.YtakjakglkfhaaaaDoorNr11
import Derived.WalkKit
import Derived.ProofKit
import Derived.OpenShut
import Derived.ShutString
import Derived.ChangeOld
import Derived.Below
import Derived.Test.YtakjakglkfhaaaaDoorHd2
import Derived.Test.YtakjakglkfhaaaaDoorRf0
import Derived.Test.YtakjakglkfhaaaaDoorArg0
import Derived.SizedLaws
import Derived.ChangeMaps5
import Derived.Deep.DeepHandedRow
import Derived.Deep.DeepWitnessRowRef
import Derived.JoinedCond
import Derived.Test.YtakjakglkfhaaaaDoorTie
import Derived.Test.YtakjakglkfhaaaaDoorCards
import Derived.SevenTiedAt
namespace Go.Proofs.YtakjakglkfhaaaaDoor.noteReads
open Go.ChangeShapes Go.WideShapes Go.ChangeAt Go.RowKit
open Go.ChangeMaps (open_string shut_string)
set_option linter.unusedVariables false

section
open Go Go.RowKit Go.ChangeShapes Go.WideShapes
theorem open_edges {H : Type} {enc : TypeId × Value → H} {w : World} {spare : Nat → Bool} {held : Bool} {a : Option Addr} {len cap : Nat} {d : DataW H} {p : List MemPlace} (h : DataW.Trod enc Tryd.prog w 0 spare held 22 (.slice a len cap) d p) : ∃ l : List AK.Ed, EdsAt w a l ∧ l.length = len ∧ len ≤ cap ∧ cap ≤ maxLen := by
  obtain ⟨fuel, hf⟩ := h
  obtain ⟨hl, hm, h0 | ⟨b, off, rfl, hlt, n, hx⟩⟩ := open_structs Tryd.underlying22 Tryd.underlying63 (show Tryd.prog.cellsOf 63 = 2 by kernel_rfl) (by decide) (show DataW.trod enc Tryd.prog w 0 spare held fuel 22 [.slice a len cap] = _ from hf)
  · exact ⟨[], .inl rfl, h0.symm, hl, hm⟩
  · have each : ∀ i, i < len → ∃ q : AK.Ed, w.cell? ⟨b, off + i * 2, none⟩ = some (.int .i64 q.1) ∧ w.cell? ⟨b, off + i * 2 + 1, none⟩ = some (.int .i64 q.2) := by
      intro i hi
      obtain ⟨cs, h1, h2, h3⟩ := hx i hi
      obtain ⟨c0, c1, rfl⟩ := list2 h1
      obtain ⟨y0, g0⟩ := h3 0 _ rfl
      obtain ⟨y1, g1⟩ := h3 1 _ rfl
      simp [cellsInt] at g0 g1
      obtain ⟨x0, e0, _⟩ := DataW.trod_int Tryd.underlying3 g0
      obtain ⟨x1, e1, _⟩ := DataW.trod_int Tryd.underlying3 g1
      simp at e0 e1
      subst e0; subst e1
      exact ⟨(x0, x1), by simpa using h2 0 _ rfl, h2 1 _ rfl⟩
    obtain ⟨s, hs⟩ := Deep.choose_lt each
    refine ⟨(List.range len).map s, .inr ⟨b, off, rfl, hlt, fun i x hx => ?_⟩, by simp, hl, hm⟩
    have hi : i < len := by have := (List.getElem?_eq_some_iff.1 hx).1; simpa using this
    simp [hi] at hx
    subst hx
    exact hs i hi
end
theorem open_bytesR {H : Type} {enc : TypeId × Value → H} {w : World} {spare : Nat → Bool} {held : Bool} {a : Option Addr} {len cap : Nat} {d : DataW H} {p : List MemPlace} (h : DataW.Trod enc Tryd.prog w 0 spare held 23 (.slice a len cap) d p) :
    ∃ xs : List Int, BytesAt w a xs ∧ xs.length = len ∧ len ≤ maxLen ∧ ∀ x ∈ xs, 0 ≤ x ∧ x < 256 := by
  obtain ⟨fuel, h⟩ := h
  rcases open_ints Tryd.underlying23 Tryd.underlying5 (by kernel_rfl) h with ⟨hcs, _⟩ | ⟨x, len', cap', zs, hcs, _, hl, hm, hz, _, hcell, hwz⟩
  · simp [Value.cells] at hcs
    obtain ⟨rfl, rfl, rfl⟩ := hcs
    exact ⟨[], .inl rfl, rfl, by unfold maxLen; omega, fun x hx => by simp at hx⟩
  · simp [Value.cells] at hcs
    obtain ⟨rfl, rfl, rfl⟩ := hcs
    rcases Nat.eq_zero_or_pos len with h0 | h0
    · subst h0; exact ⟨[], .inl rfl, rfl, by unfold maxLen; omega, fun x hx => by simp at hx⟩
    have hlz : len ≤ zs.length := by rw [hz]; split <;> omega
    have hs := World.cell?_spot (hcell 0 (by omega))
    have hs' : x.spot = none := by simpa [Addr.add] using hs
    obtain ⟨b, off, sp⟩ := x
    simp only at hs'
    subst hs'
    have hc0 := hcell 0 (by omega)
    refine ⟨zs.take len, .inr ⟨b, off, rfl, World.block_lt_of_cell? w ⟨b, off, none⟩ (by simpa [Addr.add] using hc0), fun i v hv => ?_⟩, by simp; omega, by omega, fun x hx => ?_⟩
    · have hi : i < len := by have := (List.getElem?_eq_some_iff.1 hv).1; simp at this; omega
      have := hcell i (by omega)
      rw [List.getElem?_take, if_pos hi] at hv
      rw [List.getD_eq_getElem?_getD, hv, Option.getD_some, Addr.add_mid] at this
      exact this
    · obtain ⟨j, hj⟩ := List.mem_iff_getElem?.1 (List.mem_of_mem_take hx)
      have hb := range_u8 hwz j
      simp [hj] at hb
      omega
set_option maxRecDepth 100000 in
theorem reads (os : Os) {H : Type} (enc : TypeId × Value → H) : ∃ places, DataW.whole enc Tryd.prog ((Hd2.laidWorld os).forCall (fun _ _ => 0) ⟨#[], #[.int .i64 0, .slice none 0 0, .slice none 0 0, .agg #[.int .i64 0, .int .i64 0, .int .i64 0], .string ⟨#[]⟩], []⟩).memory Tryd.f3.params.toList Rows.noteReadsSpec.vars false #[Value.int .i64 0, .slice none 0 0, .slice none 0 0, .agg #[.int .i64 0, .int .i64 0, .int .i64 0], .string ⟨#[]⟩].toList 8 = some ([.lit (.int .i64 0), .nil, .nil, .agg [.lit (.int .i64 0), .lit (.int .i64 0), .lit (.int .i64 0)], .lit (.string [])], [], places) :=
  ⟨[], by kernel_rfl⟩
set_option maxRecDepth 100000 in
theorem lifted (os : Os) (started : os.Started) (H : Type) (enc : TypeId × Value → H) (F : Stop.Interp) :
    ReturnsInHanded {} Tryd.checked os 3 .any ((Rows.OpenSpec.upto Rows.noteReadsSpec).preRow enc Tryd.prog Tryd.f3 Rows.noteReadsUptoRow.domain false Rows.noteReadsUptoRow.laid) (((Rows.OpenSpec.upto Rows.noteReadsSpec).at F).post enc Tryd.prog Tryd.f3 false true false false) := by
  obtain ⟨places, hx⟩ := reads os enc
  refine returnsInHanded_of_row (C := Tryd.checked) (s := Rows.OpenSpec.upto Rows.noteReadsSpec) Hd.own started (by kernel_rfl) Tryd.func3
    (witness_row_at (enc := enc) (C := Tryd.checked) false (Hd2.laidWorld os) #[.int .i64 0, .slice none 0 0, .slice none 0 0, .agg #[.int .i64 0, .int .i64 0, .int .i64 0], .string ⟨#[]⟩] rfl (by kernel_rfl) (by kernel_rfl) (by kernel_rfl)
      (OpenSpec.preRow_of_cond 8 hx (by kernel_rfl) (fun k hk => by cases hk; kernel_rfl) (by kernel_rfl) (Hd2.laidWorld_met os _))) ?_
  intro W base args ds gs before hval0 hW q1 q2 q3 hL q5 q6
  have hval : ∀ (j : Nat) t v, Tryd.f3.params[j]? = some t → args[j]? = some v → Value.okWide Tryd.prog W .any base t v := hval0
  have hW' := hW
  obtain ⟨p, q, hA0, hV, rfl, hfz, hnd⟩ := hW
  have hA : DataW.TrodAll enc Tryd.prog W 0 (fun _ => true) true Tryd.f3.params.toList args.toList ds p := hA0
  rw [Tryd.params3] at hA hval
  obtain ⟨v0, vs0, d0, ds0, p0, q0, hargs, rfl, rfl, h0, r0⟩ := trodAll_cons hA
  obtain ⟨v1, vs1, d1, ds1, p1, q1, rfl, rfl, rfl, h1, r1⟩ := trodAll_cons r0
  obtain ⟨v2, vs2, d2, ds2, p2, q2, rfl, rfl, rfl, h2, r2⟩ := trodAll_cons r1
  obtain ⟨v3, vs3, d3, ds3, p3, q3, rfl, rfl, rfl, h3, r3⟩ := trodAll_cons r2
  obtain ⟨v4, vs4, d4, ds4, p4, q4, rfl, rfl, rfl, h4, r4⟩ := trodAll_cons r3
  obtain ⟨rfl, rfl, rfl⟩ := trodAll_nil r4
  obtain rfl : args = #[v0, v1, v2, v3, v4] := by cases args; simp_all
  obtain ⟨rfl, rfl⟩ := trodVars_none hV
  obtain ⟨a0, rfl, rfl, rfl, w0⟩ := open_int Tryd.underlying3 (hval 0 3 v0 rfl rfl) h0
  obtain ⟨a1, len1, cap1, rfl⟩ := okWide_slice Tryd.underlying22 (hval 1 22 v1 rfl rfl)
  have k1 := h1
  have lt1 : ∀ x ∈ p1, x.block < W.heap.size := by obtain ⟨m, hm⟩ := k1; exact DataW.trod_lt m _ _ _ hm
  obtain ⟨s1, f1⟩ := open_edges h1
  obtain ⟨a2, len2, cap2, rfl⟩ := okWide_slice Tryd.underlying23 (hval 2 23 v2 rfl rfl)
  have k2 := h2
  have lt2 : ∀ x ∈ p2, x.block < W.heap.size := by obtain ⟨m, hm⟩ := k2; exact DataW.trod_lt m _ _ _ hm
  obtain ⟨s2, f2⟩ := open_bytesR h2
  have k3 := h3
  have lt3 : ∀ x ∈ p3, x.block < W.heap.size := by obtain ⟨m, hm⟩ := k3; exact DataW.trod_lt m _ _ _ hm
  obtain ⟨x4, y4, z4, rfl⟩ := open_event (hval 3 25 v3 rfl rfl) h3
  obtain ⟨a5, rfl, rfl, rfl, hs5⟩ := open_string Tryd.underlying9 (hval 4 9 v4 rfl rfl) h4
  have hlim : a5.size ≤ 1048576 := by
    have hk : Rows.uptoSmall H ([.lit (.int .i64 a0), d1, d2, d3, .lit (.string a5.data.toList)] ++ []) = true := q2 _ rfl
    have h := of_decide_eq_true hk
    simp only [List.append_nil, Rows.uptoBulkAll, Rows.uptoBulk] at h
    have e2 : a5.data.toList.length = a5.size := Array.length_toList
    omega
  have hD := Hd2.door_of_laid hL
  clear hA0 hval0
  refine (nr_walk a0 a1 len1 cap1 s1 a2 len2 cap2 s2 x4 y4 z4 a5 W hD.1 hD.2 f1 f2 hlim).mono fun e W' ⟨he, bel⟩ => ?_
  subst he
  exact ⟨_, rfl, _, _, _, [], _, [], hW', trodAll_mk1 (shut_bool Tryd.underlying4 _), (trodAll_cons_mk (shut_int Tryd.underlying3 w0) (trodAll_cons_mk (Below.trod Hd.laidOut (by kernel_rfl) (of_decide_eq_true (by kernel_rfl)) k1 bel lt1) (trodAll_cons_mk (Below.trod Hd.laidOut (by kernel_rfl) (of_decide_eq_true (by kernel_rfl)) k2 bel lt2) (trodAll_cons_mk (Below.trod Hd.laidOut (by kernel_rfl) (of_decide_eq_true (by kernel_rfl)) k3 bel lt3) (trodAll_cons_mk (shut_string Tryd.underlying9 hs5) trodAll_mk0))))), rfl, bel.frame _, fun h => by cases h⟩

theorem over : Rows.noteReadsUptoRow.holds Tryd.pinned (Rows.OpenSpec.upto Rows.noteReadsSpec) :=
  OpenClaim.holds_of_cond 3 Tryd.f3 rfl rfl rfl rfl rfl rfl rfl ⟨rfl, rfl, rfl, rfl, rfl⟩ rfl rfl rfl rfl rfl (by kernel_rfl) Tryd.func3 (by kernel_rfl)
    (of_decide_eq_true (by kernel_rfl)) (by unfold Func.isWrapper; first | (rw [if_pos (by decide +kernel)]; kernel_rfl) | (rw [if_neg (by decide +kernel)]; exact ⟨rfl, rfl⟩))
    (fun os started H enc _ F => by rw [OpenClaim.pre_eq_preRow]; exact lifted os started H enc F)

theorem proved : Rows.NoteReadsUptoCardSaid :=
  Claim7.holds_tied_plain_at .later [] [.data, .data, .data, .handle, .sentinel, .sentinel] true Rows.noteReadsUptoCard.stood.harness true
    over (fun _ h => by cases h) (by kernel_rfl) (fun _ h => by cases h) noteReadsUpto_row_tie rfl ⟨rfl, rfl⟩ (by kernel_rfl) rfl
    (fun f fn hf hfn => by
      obtain rfl : f = 3 := Option.some.inj ((show Tryd.prog.funcNamed Rows.noteReadsUptoRow.func = some 3 by kernel_rfl).symm.trans hf) |>.symm
      obtain rfl : fn = Tryd.f3 := (Option.some.inj (Tryd.func3.symm.trans hfn)).symm
      exact ⟨by kernel_rfl, fun j t ht => by
        have hall : ∀ t ∈ Tryd.f3.params.toList, Tryd.prog.wantsStandIn t = false := by
          rw [Tryd.params3]
          intro t ht
          simp only [List.mem_cons, List.not_mem_nil, or_false] at ht
          rcases ht with rfl | rfl | rfl | rfl | rfl
          · exact (show Tryd.prog.wantsStandIn 3 = false by kernel_rfl)
          · exact (show Tryd.prog.wantsStandIn 22 = false by kernel_rfl)
          · exact (show Tryd.prog.wantsStandIn 23 = false by kernel_rfl)
          · exact (show Tryd.prog.wantsStandIn 25 = false by kernel_rfl)
          · exact (show Tryd.prog.wantsStandIn 9 = false by kernel_rfl)
        exact hall t (List.mem_of_getElem? (i := j) (by rw [Array.getElem?_toList]; exact ht))⟩)
    (by kernel_rfl)
#print axioms proved
end Go.Proofs.YtakjakglkfhaaaaDoor.noteReads
