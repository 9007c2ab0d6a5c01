/-
  Walk of tour's set. Conditions: the forest's parts lie in memory; the way as 'RowAt' says, its marks are nodes.
-/
import Derived.Test.YtckcbfnffmohgaaSpanLeastPk44
namespace Go.Proofs.Ytckcbfnffmohgaa
open Go Go.RowKit SQ TR DF PD
set_option linter.unusedVariables false

theorem wpList_vdel {P : Program} (w : World) {ops : Array Oper} {rest : List Oper} {o : Oper} {a : Act} {Q : Exit → Act → World → Prop} (hg : o.guard = none) (m x : Operand) (t k : TypeId) (hop : o.op = Op.call { callee := Callee.builtin Builtin.delete, args := #[m, x], argTypes := #[t, k] })
    (vm vx : Value) (hm : a.eval m = vm) (hx : a.eval x = vx) (w' : World) (hrun : ∀ ty, (Builtin.delete_ #[t, k] ty #[vm, vx]).run P w = .ok (.tuple #[]) w') (hK : wpList P ops Q rest (a.put o.dst (.tuple #[])) w') : wpList P ops Q (o :: rest) a w := by
  refine wpList_plain hg fun K' hK' => ?_
  unfold Oper.wp
  simp [execOp, hop, resolve, invoke, builtin, hm, hx, hrun, Result.andThen]
  exact hK' _ _ hK
structure SetK (n : Nat) (M : List Int) (r k : Nat) (p : List Int) (m : Int → Option Value) (p' : List Int) (m' : Int → Option Value) : Prop where
  len : p'.length = p.length
  g : ∀ v : Nat, v < n → PD.g p' v = if (v : Int) ∈ M.take k then (r : Int) else PD.g p v
  m : ∀ x : Int, m' x = if x ∈ M.take k then none else m x
theorem SetK.zero (n : Nat) (M : List Int) (r : Nat) (p : List Int) (m : Int → Option Value) : SetK n M r 0 p m p m := ⟨rfl, fun v _ => by simp, fun x => by simp⟩
theorem SetK.step {n r k x : Nat} {M p p' : List Int} {m m' : Int → Option Value} (h : SetK n M r k p m p' m') (hx : M[k]? = some (x : Int)) (hl : p.length = n) (hxn : x < n) : SetK n M r (k + 1) p m (p'.set x r) (updV m' (x : Int) none) := by
  have ht : M.take (k + 1) = M.take k ++ [(x : Int)] := take_snocT hx
  refine ⟨by rw [List.length_set, h.len], fun v hv => ?_, fun y => ?_⟩
  · have hm : (v : Int) ∈ M.take (k + 1) ↔ (v : Int) ∈ M.take k ∨ (v : Int) = (x : Int) := by rw [ht, List.mem_append, List.mem_singleton]
    by_cases e : v = x
    · subst e
      rw [g_set_self (by rw [h.len]; omega), if_pos (hm.2 (.inr rfl))]
    · rw [g_set_ne (Ne.symm e), h.g v hv]
      by_cases q : (v : Int) ∈ M.take k
      · rw [if_pos q, if_pos (hm.2 (.inl q))]
      · rw [if_neg q, if_neg (fun w => (hm.1 w).elim q (fun w => by omega))]
  · have hm : y ∈ M.take (k + 1) ↔ y ∈ M.take k ∨ y = (x : Int) := by rw [ht, List.mem_append, List.mem_singleton]
    unfold updV
    by_cases e : y = (x : Int)
    · rw [if_pos e, if_pos (hm.2 (.inr e))]
    · rw [if_neg e, h.m y]
      by_cases q : y ∈ M.take k
      · rw [if_pos q, if_pos (hm.2 (.inl q))]
      · rw [if_neg q, if_neg (fun w => (hm.1 w).elim q e)]
theorem SetK.done {n r : Nat} {M p p' : List Int} {q : Option Addr} {m m' : Int → Option Value} (h : SetK n M r M.length p m p' m') : SetR n M r q p m p' (updV m' (r : Int) (some (.pointer q))) := by
  refine ⟨h.len, fun v hv => by rw [h.g v hv, List.take_length], fun x => ?_⟩
  unfold updV
  rw [h.m x, List.take_length]
structure SetAt (w wr : World) (F : FoP) (n N s r k : Nat) (M p : List Int) (m : Int → Option Value) : Prop where
  st : ∃ p' m' s', SetK n M r k p m p' m' ∧ RootAt wr F n p' ∧ VM kI wr F.mb N s' m'
  chg : Chg (fun k => k = F.mb ∨ k = F.rb) w wr
def SetPost (w : World) (F : FoP) (n N : Nat) (l p : List Int) (q : Option Addr) (m : Int → Option Value) (e : Ending) (w' : World) : Prop :=
  e = .returned (.tuple #[]) ∧ ∃ (r : Nat) (p' : List Int) (m' : Int → Option Value) (s' : Nat), (r : Int) ∈ mks l ∧ (∀ z ∈ mks l, (r : Int) ≤ z) ∧ SetR n (mks l) r q p m p' m' ∧ RootAt w' F n p' ∧ VM kI w' F.mb (N + 1) s' m' ∧ Chg (fun k => k = F.mb ∨ k = F.rb) w w'
set_option maxHeartbeats 2000000 in
set_option maxRecDepth 100000 in
theorem tset_any {w : World} {F : FoP} {n N s : Nat} {p l : List Int} {m : Int → Option Value} {q : Option Addr} (hb : Blk w F.fb 52 #[.map (some F.mb), F.rv n, .map (some F.eb)]) (hn : n ≤ 60) (hroot : RootAt w F n p) (hpl : p.length = n) (hv : VM kI w F.mb N s m) (hN : N < 1000000)
    (hq : RowAt w q l) (hl : l.length ≤ 400) (h0 : 0 < (mks l).length) (hM : ∀ x ∈ mks l, ∃ v : Nat, x = v ∧ v < n) :
    Calls Try.prog 22 #[.pointer (some ⟨F.fb, 0, none⟩), .pointer q] w (SetPost w F n N l p q m) := by
  have hlm : (mks l).length ≤ l.length := List.length_filter_le _ _
  obtain ⟨M, hMe⟩ : ∃ M, M = mks l := ⟨_, rfl⟩
  have hfm : F.fb ≠ F.mb := hv.blk_ne hb
  have hfr : F.fb ≠ F.rb := fun e => own_ne hroot hb (by decide) (by simp [FoP.rv, Value.ownBlock, e])
  have hrm : F.rb ≠ F.mb := fun e => hv.own_ne hroot (by simp [FoP.rv, Value.ownBlock, e])
  have hrl : F.rb < w.heap.size := own_lt hroot (by simp [FoP.rv, Value.ownBlock])
  have hml : F.mb < w.heap.size := hv.lt
  have HB := Lib.hid hb
  have HQ := Lib.hid hq
  have HR := Lib.hid hroot
  have HV := Lib.hid hv
  have HM := Lib.hid hM
  have HP := Lib.hid hpl
  clear hb hq hroot hv hM hpl
  go_enter Try.func22, Try.ntmps22
  go_wp2_with fail
  refine (nodes_any HQ.out (by omega) hl).mono ?_
  rintro e w1 ⟨A, c, rfl, ho, hx, hnew⟩
  have HO := Lib.hid ho
  have HX := Lib.hid hx
  have HNW := Lib.hid hnew
  clear ho hx hnew
  go_wp2_with fail
  refine (min_any w1 A c (mks l) HO.out h0 (by omega)).mono ?_
  rintro e w1' ⟨rfl, hw1⟩
  obtain rfl : w1 = w1' := hw1.symm
  obtain ⟨r, hr⟩ : ∃ r : Nat, Lib.minOf (mks l) = r := by
    obtain ⟨v, hv, _⟩ := HM.out _ (minOf_least _ h0).1
    exact ⟨v, hv⟩
  have HMIN := Lib.hid (minOf_least _ h0)
  rw [hr] at HMIN ⊢
  have hrn : r < n := by
    obtain ⟨v, hv, hvn⟩ := HM.out _ HMIN.out.1
    omega
  rw [← hMe] at HO HM HMIN h0 hlm HNW ⊢
  clear hr
  obtain ⟨g, cg, hv, hcg, _⟩ := own_form HO.out h0
  simp only [Value.slice.injEq, true_and] at hv
  obtain ⟨rfl, rfl⟩ := hv
  have hgn : w.heap.size ≤ g := HNW.out g (by simp [Value.ownBlock])
  obtain ⟨mm, hmm⟩ : ∃ mm, M.length = mm := ⟨_, rfl⟩
  have hz1 : w.heap.size ≤ w1.heap.size := HX.out.size
  have hBx : Hid (Blk w1 F.fb 52 #[.map (some F.mb), F.rv n, .map (some F.eb)]) := HB.out.chg (Chg.of_below HX.out) (by have := HB.out.lt; omega)
  have HS0 : Hid (SetAt w1 w1 F n N s r 0 M p m) := ⟨⟨p, m, s, SetK.zero _ _ _ _ _, own_chg HR.out (Chg.of_below HX.out) (fun k hk => by have := own_lt HR.out hk; omega), HV.out.ext HX.out⟩, Chg.refl _ _⟩
  rw [hmm] at HO h0 hlm hcg ⊢
  go_wp2
  go_loopw [14] (fun v wr => ∃ k : Nat, k ≤ mm ∧ v = .int .i64 k ∧ Hid (SetAt w1 wr F n N s r k M p m)) (fun v _ => mm - (intOf v).toNat)
  case atStart => exact ⟨0, Nat.zero_le _, rfl, HS0⟩
  case round =>
    obtain ⟨k, hk, rfl, HS⟩ := hrel
    have hBr : Hid (Blk wr F.fb 52 #[.map (some F.mb), F.rv n, .map (some F.eb)]) := hBx.out.chg HS.out.chg (by rintro (e | e); exact hfm e; exact hfr e)
    have d0 : wr.cell? ⟨F.fb, 0, none⟩ = some (.map (some F.mb)) := hBr.out.cell 0
    have d1 : wr.cell? ⟨F.fb, 1, none⟩ = some (.slice (some ⟨F.rb, 0, none⟩) n F.c) := hBr.out.cell 1
    by_cases hlt : k < mm
    · obtain ⟨x', hx'⟩ : ∃ x, M[k]? = some x := ⟨_, List.getElem?_eq_getElem (by omega)⟩
      obtain ⟨x, rfl, hxn⟩ := HM.out x' (List.mem_of_getElem? hx')
      have hor := own_chg HO.out HS.out.chg (fun j hj => by
        have : g = j := by simpa [Value.ownBlock] using hj
        omega)
      have c1 : wr.cell? ⟨g, k, none⟩ = some (.int .i64 (x : Nat)) := by
        rw [hor.cellAt k (by omega), intsV, List.getElem?_map, hx']; rfl
      have c1' : wr.cell? ⟨g, 0 + k, none⟩ = some (.int .i64 (x : Nat)) := by rw [Nat.zero_add]; exact c1
      obtain ⟨p', m', s', hk1, hk2, hk3⟩ := HS.out.st
      obtain ⟨w2, hdel, ⟨s2, hs2, hv2⟩, hc2, hsz2⟩ := hk3.del Try.underlying49 (x : Int) (WalkArith.wf_i64 (by omega))
      have hdel : ∀ ty, (Builtin.delete_ #[49, 3] ty #[.map (some F.mb), .int .i64 x]).run Try.prog wr = .ok (.tuple #[]) w2 := hdel
      have e0 : w2.cell? ⟨F.fb, 0, none⟩ = some (.map (some F.mb)) := (hBr.out.chg hc2 hfm).cell 0
      have e1 : w2.cell? ⟨F.fb, 1, none⟩ = some (.slice (some ⟨F.rb, 0, none⟩) n F.c) := (hBr.out.chg hc2 hfm).cell 1
      have hR2 : RootAt w2 F n p' := own_chg hk2 hc2 (fun j hj => by
        have : F.rb = j := by simpa [FoP.rv, Value.ownBlock] using hj
        omega)
      have hfz : w2.frozen? ⟨F.rb, x, none⟩ = false := hR2.frozenAt x
      have hfz' : w2.frozen? ⟨F.rb, 0 + x, none⟩ = false := by rw [Nat.zero_add]; exact hfz
      have hce : ∃ u, w2.cell? ⟨F.rb, x, none⟩ = some u := ⟨_, by
        rw [hR2.cellAt x (by have := hk1.len; have := HP.out; omega), intsV, List.getElem?_map, List.getElem?_eq_getElem (by have := hk1.len; have := HP.out; omega)]
        rfl⟩
      obtain ⟨u, hu⟩ := hce
      have hu' : w2.cell? ⟨F.rb, 0 + x, none⟩ = some u := by rw [Nat.zero_add]; exact hu
      have HS2 : Hid (SetAt w1 (w2.setCell ⟨F.rb, x, none⟩ (.int .i64 (r : Nat))) F n N s r (k + 1) M p m) := by
        refine ⟨⟨p'.set x r, updV m' (x : Int) none, s2, hk1.step hx' HP.out hxn, ?_, hv2.chg (chg_at w2 F.rb x _) (fun e => hrm e.symm)⟩, ?_⟩
        · have := (hR2.stored x (.int .i64 (r : Nat))).1
          unfold RootAt
          rw [intsV, List.map_set]
          exact this
        · exact (HS.out.chg.trans hc2 (fun i _ hi => .inl hi)).setCell (p := ⟨F.rb, x, none⟩) (fun _ => .inr rfl) _
      have z0 : (k : Int) < (mm : Int) := by omega
      have z1 : (x : Int) < (n : Int) := by omega
      clear hor hk1 hk2 hk3 hv2 hR2 hs2 hx'
      go_wp2_with (at_delete; refine wpList_vdel _ rfl _ _ _ _ rfl _ _ rfl rfl w2 hdel ?_)
      go_roundw
      case rel => exact ⟨k + 1, by omega, by go_num, HS2⟩
      case measure => simp [intOf]; omega
    · obtain rfl : k = mm := by omega
      obtain ⟨p', m', s', hk1, hk2, hk3⟩ := HS.out.st
      obtain ⟨w2, hput, hv2, hc2, hsz2⟩ := hk3.put Try.underlying49 hN (r : Int) (WalkArith.wf_i64 (by omega)) (.pointer q)
      have hput : (Instr.mapUpdate 49 (.map (some F.mb)) (.int .i64 r) (.pointer q)).run Try.prog wr = .ok () w2 := hput
      have HE : Hid (∃ (p' : List Int) (m' : Int → Option Value) (s' : Nat), SetR n M r q p m p' m' ∧ RootAt w2 F n p' ∧ VM kI w2 F.mb (N + 1) s' m' ∧ Chg (fun k => k = F.mb ∨ k = F.rb) w w2) := by
        refine ⟨p', _, _, (hmm ▸ hk1).done, own_chg hk2 hc2 (fun j hj => by
          have : F.rb = j := by simpa [FoP.rv, Value.ownBlock] using hj
          omega), hv2, ?_⟩
        exact ((Chg.of_below HX.out).mono (fun i hi hs => by omega)).trans (HS.out.chg.trans hc2 (fun i _ hi => .inl hi)) (fun i _ hi => hi)
      clear hk1 hk2 hk3 hv2 hc2
      go_wp2
      go_end0
      obtain ⟨p2, m2, s2, a1, a2, a3, a4⟩ := HE.out
      exact ⟨rfl, r, p2, m2, s2, by rw [← hMe]; exact HMIN.out.1, by rw [← hMe]; exact HMIN.out.2, by rw [← hMe]; exact a1, a2, a3, a4⟩
end Go.Proofs.Ytckcbfnffmohgaa
