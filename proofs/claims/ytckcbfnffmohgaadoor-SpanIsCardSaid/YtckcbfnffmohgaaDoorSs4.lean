/-
  slices.symMergeCmpFunc at rows of ints, by span.light's closure: one into many. Under way.
-/
import Derived.Test.YtckcbfnffmohgaaDoorSs3
import Derived.Shelf.SlSortCmp.Insertion1
namespace Go.Proofs.YtckcbfnffmohgaaDoor
open Go Go.Shelf Go.RowKit Go.Lib Go.Sort SS
set_option linter.unusedVariables false
variable {nn : Nat}

/-- Compared by weight. -/
def cfW (wt : Int → Int) (x y : Int) : Int := wt x - wt y

set_option maxHeartbeats 1000000 in
set_option maxRecDepth 100000 in
theorem sym_one (wt : Int → Int) (w0 : World) (d0 : Array Int) (blk off cap a b : Nat) (d : Array Int) (w : World) (cb : Array Value) (hC : CmpLays1 Tryd.prog 35 cb (eN nn) (cfW wt) blk off d0.size w0) (R : Row1 (eN nn) w0 blk off d0) (hs : d0.size = d.size) (S : SW (eN nn) w0 blk off d w) (hab : a + 1 < b) (hb : b ≤ d.size) (hsz : d.size < 100000)
    (hy : So wt (vw d) (a + 1) b) (hc : Cr (vw d) a (a + 1) b) :
    Calls Tryd.prog 58 #[.slice (some ⟨blk, off, none⟩) d.size cap, .int .i64 a, .int .i64 ((a : Int) + 1), .int .i64 b, .func (.func 35) #[] cb] w fun e w' => e = .returned (.tuple #[]) ∧ ∃ d' : Array Int, d'.size = d.size ∧ So wt (vw d') a b ∧ Sm (vw d) (vw d') a b ∧ Of (vw d) (vw d') a b ∧ SW (eN nn) w0 blk off d' w' := by
  have S0 : Hid (SW (eN nn) w0 blk off d w) := S
  have HC := Lib.hid hC
  have mixed : Tryd.prog.follows .mixedOrders = true := by kernel_rfl
  clear S hC
  have r1 : IntKind.i64.wrap ((a : Int) + 1 - (a : Int)) = 1 := (IntWalk.i64_in _ (by omega)).trans (by omega)
  go_enter Tryd.func58, Tryd.ntmps58
  go_wp2
  go_loopw [10, 11, 12] (fun vi vj _ wr => ∃ (i j : Nat), vi = .int .i64 i ∧ vj = .int .i64 j ∧ a + 1 ≤ i ∧ i ≤ j ∧ j ≤ b ∧ Hid (∀ k, a + 1 ≤ k → k < i → lx wt (vw d k) (vw d a)) ∧ Hid (∀ k, j ≤ k → k < b → lx wt (vw d a) (vw d k)) ∧ Hid (SW (eN nn) w0 blk off d wr)) (fun vi vj _ _ => (intOf vj).toNat - (intOf vi).toNat)
  case atStart => exact ⟨a + 1, b, by go_num, rfl, by omega, by omega, by omega, fun k _ _ => by omega, fun k _ _ => by omega, S0.out⟩
  case round =>
    clear S0
    obtain ⟨i, j, rfl, rfl, h1, h2, h3, HL, HR, HS⟩ := hrel
    by_cases c : i < j
    · have hlt : (i : Int) < (j : Int) := by omega
      have rs : IntKind.i64.wrap ((i : Int) + (j : Int)) = ((i + j : Nat) : Int) := (IntWalk.i64_in _ (by omega)).trans (by omega)
      obtain ⟨h, hh⟩ : ∃ h : Nat, (i + j) / 2 = h := ⟨_, rfl⟩
      have hz : ((i : Int) + (j : Int)) / 2 = (h : Int) := by omega
      go_wp2_with fail
      have bh : (h : Int) < (d.size : Int) := by omega
      have ba : (a : Int) < (d.size : Int) := by omega
      have l1 : ∀ n os, (grow (wr.drewN n) os).cell? ⟨blk, off + h, none⟩ = some (.int .i64 (cl nn d[h]!)) := HS.out.cl R (by omega) h (by omega)
      have l2 : ∀ n os, (grow (wr.drewN n) os).cell? ⟨blk, off + a, none⟩ = some (.int .i64 (cl nn d[a]!)) := HS.out.cl R (by omega) a (by omega)
      have lc := HS.out.cmp HC.out (by omega) d[h]! d[a]!
      have nx : d[h]! = vw d h := rfl
      have ny : d[a]! = vw d a := rfl
      have hcr := hc a h (Nat.le_refl _) (by omega) (by omega) (by omega)
      by_cases q : wt (vw d h) < wt (vw d a)
      · have hlo : ∀ k, a + 1 ≤ k → k < h + 1 → lx wt (vw d k) (vw d a) := fun k q1 q2 => by
          by_cases e : k = h
          · rw [e]; exact .inl q
          · exact lx_trans (hy k h q1 (by omega) (by omega)) (.inl q)
        have HL2 := Lib.hid hlo
        have hq : cfW wt d[h]! d[a]! < 0 := by unfold cfW; rw [nx, ny]; omega
        have hd : decide (cfW wt d[h]! d[a]! < 0) = true := decide_eq_true hq
        clear hlo q hcr nx ny HL
        generalize d[h]! = x at l1 lc hq hd
        generalize d[a]! = y at l2 lc hq hd
        go_quiet_grown (first | (go_at_call 35; refine Calls.grown_of (lc _ _)))
        have S2 := Lib.hid (HS.out.grown nq osq)
        clear l1 l2 lc hq hd HS
        generalize grow (wr.drewN nq) osq = w2 at S2 ⊢
        go_wp2
        go_roundw
        case rel => exact ⟨h + 1, j, by go_num, rfl, by omega, by omega, h3, HL2.out, HR.out, S2.out⟩
        case measure => simp [intOf]; omega
      · have hhi : ∀ k, h ≤ k → k < b → lx wt (vw d a) (vw d k) := fun k q1 q2 => by
          have q3 : lx wt (vw d a) (vw d h) := by unfold lx; omega
          by_cases e : k = h
          · rw [e]; exact q3
          · exact lx_trans q3 (hy h k (by omega) (by omega) q2)
        have HR2 := Lib.hid hhi
        have hq : ¬ cfW wt d[h]! d[a]! < 0 := by unfold cfW; rw [nx, ny]; omega
        have hd : decide (cfW wt d[h]! d[a]! < 0) = false := decide_eq_false hq
        clear hhi q hcr nx ny HR
        generalize d[h]! = x at l1 lc hq hd
        generalize d[a]! = y at l2 lc hq hd
        go_quiet_grown (first | (go_at_call 35; refine Calls.grown_of (lc _ _)))
        have S2 := Lib.hid (HS.out.grown nq osq)
        clear l1 l2 lc hq hd HS
        generalize grow (wr.drewN nq) osq = w2 at S2 ⊢
        go_wp2
        go_roundw
        case rel => exact ⟨i, h, rfl, rfl, h1, by omega, by omega, HL.out, HR2.out, S2.out⟩
        case measure => simp [intOf]; omega
    · obtain rfl : i = j := by omega
      -- the place is found: the first goes there, place by place
      have e0 : rot (vw d) a (a + 1) (a + 1) = vw d := rot_none _ (.inr rfl) (by omega) (Nat.le_refl _)
      have HF := Lib.hid (one_into hy h1 h3 HL.out HR.out)
      have HM : Hid (Sm (vw d) (rot (vw d) a (a + 1) i) a b) := (rot_sm (vw d) (by omega) h1).wide (rot_of _ _ _ _) (Nat.le_refl _) h3
      have HO : Hid (Of (vw d) (rot (vw d) a (a + 1) i) a b) := (rot_of (vw d) a (a + 1) i).wide (Nat.le_refl _) h3
      have E0 := Lib.hid e0
      clear e0 HL HR
      have rj : IntKind.i64.wrap ((i : Int) - 1) = (i : Int) - 1 := IntWalk.i64_in _ (by omega)
      go_wp2
      go_loopw [13] (fun vk wk => ∃ (k : Nat) (dk : Array Int), vk = .int .i64 k ∧ a ≤ k ∧ k + 1 ≤ i ∧ dk.size = d.size ∧ Hid (vw dk = rot (vw d) a (a + 1) (k + 1)) ∧ Hid (SW (eN nn) w0 blk off dk wk)) (fun vk _ => i - (intOf vk).toNat)
      case atStart => exact ⟨a, d, rfl, Nat.le_refl _, by omega, rfl, E0.out.symm, HS.out⟩
      case round =>
        clear HS
        obtain ⟨k, dk, rfl, k1, k2, hsd, HV, HK⟩ := hrel
        by_cases c2 : k + 1 < i
        · have hlt : (k : Int) < (i : Int) - 1 := by omega
          obtain ⟨p, hp⟩ : ∃ p, k + 1 = p := ⟨_, rfl⟩
          have rp : IntKind.i64.wrap ((k : Int) + 1) = (p : Int) := (IntWalk.i64_in _ (by omega)).trans (by omega)
          have bp : (p : Int) < (d.size : Int) := by omega
          have bk : (k : Int) < (d.size : Int) := by omega
          have c1 := HK.out.c1 R (by omega) k (by omega)
          have c3 := HK.out.c1 R (by omega) p (by omega)
          have f1 := HK.out.f1 R (by omega) k (by omega)
          have f2 := HK.out.f1 R (by omega) p (by omega)
          obtain ⟨u3, c4⟩ := HK.out.c2 R (by omega) k p (by omega) (by omega) ((eN nn) dk[p]!)
          have HX : Hid (SW (eN nn) w0 blk off (swp dk k p) ((wr.setCell ⟨blk, off + k, none⟩ ((eN nn) dk[p]!)).setCell ⟨blk, off + p, none⟩ ((eN nn) dk[k]!)).drew) := HK.out.swapped R k p (by omega) (by omega)
          have HW : Hid (vw (swp dk k p) = rot (vw d) a (a + 1) (k + 1 + 1)) := by
            funext x
            rw [vw_swp dk (by omega) (by omega), rot_right_one k1, ← HV.out, hp]
          generalize dk[k]! = x at c1 c4 HX
          generalize dk[p]! = y at c3 c4 HX
          simp only [eN] at c1 c3 c4 HX
          clear HV HK
          go_wp2_with fail
          go_big_region
          clear c1 c3 c4 f1 f2
          generalize ((wr.setCell ⟨blk, off + k, none⟩ (.int .i64 (cl nn y))).setCell ⟨blk, off + p, none⟩ (.int .i64 (cl nn x))).drew = w3 at HX ⊢
          go_wp2
          go_roundw
          case rel => exact ⟨k + 1, swp dk k p, by go_num, by omega, by omega, by rw [size_swp]; exact hsd, HW, HX⟩
          case measure => simp [intOf]; omega
        · have hlt : ¬ (k : Int) < (i : Int) - 1 := by omega
          obtain rfl : k + 1 = i := by omega
          go_wp2
          (try simp only [Exit.inBlock, Exit.then])
          refine bodyPost_ret (results_none rfl _ _ _) rfl ?_
          exact ⟨rfl, dk, hsd, by rw [HV.out]; exact HF.out, by rw [HV.out]; exact HM.out, by rw [HV.out]; exact HO.out, HK.out⟩

set_option maxHeartbeats 1000000 in
set_option maxRecDepth 100000 in
theorem sym_last (wt : Int → Int) (w0 : World) (d0 : Array Int) (blk off cap a m : Nat) (d : Array Int) (w : World) (cb : Array Value) (hC : CmpLays1 Tryd.prog 35 cb (eN nn) (cfW wt) blk off d0.size w0) (R : Row1 (eN nn) w0 blk off d0) (hs : d0.size = d.size) (S : SW (eN nn) w0 blk off d w) (ham : a + 1 < m) (hb : m + 1 ≤ d.size) (hsz : d.size < 100000)
    (hx : So wt (vw d) a m) (hc : Cr (vw d) a m (m + 1)) :
    Calls Tryd.prog 58 #[.slice (some ⟨blk, off, none⟩) d.size cap, .int .i64 a, .int .i64 m, .int .i64 ((m : Int) + 1), .func (.func 35) #[] cb] w fun e w' => e = .returned (.tuple #[]) ∧ ∃ d' : Array Int, d'.size = d.size ∧ So wt (vw d') a (m + 1) ∧ Sm (vw d) (vw d') a (m + 1) ∧ Of (vw d) (vw d') a (m + 1) ∧ SW (eN nn) w0 blk off d' w' := by
  have S0 : Hid (SW (eN nn) w0 blk off d w) := S
  have HC := Lib.hid hC
  have mixed : Tryd.prog.follows .mixedOrders = true := by kernel_rfl
  clear S hC
  obtain ⟨x0, hx0⟩ : ∃ x0, a + x0 = m := ⟨m - a, by omega⟩
  have r0 : IntKind.i64.wrap ((m : Int) - (a : Int)) = (x0 : Int) := (IntWalk.i64_in _ (by omega)).trans (by omega)
  have z0 : ((x0 : Int) == 1) = false := by rw [beq_eq_false_iff_ne]; omega
  have z1 : ¬ (x0 : Int) = 1 := by omega
  have r1 : IntKind.i64.wrap ((m : Int) + 1 - (m : Int)) = 1 := (IntWalk.i64_in _ (by omega)).trans (by omega)
  go_enter Tryd.func58, Tryd.ntmps58
  go_wp2
  go_loopw [14, 15, 16] (fun vi vj _ wr => ∃ (i j : Nat), vi = .int .i64 i ∧ vj = .int .i64 j ∧ a ≤ i ∧ i ≤ j ∧ j ≤ m ∧ Hid (∀ k, a ≤ k → k < i → lx wt (vw d k) (vw d m)) ∧ Hid (∀ k, j ≤ k → k < m → lx wt (vw d m) (vw d k)) ∧ Hid (SW (eN nn) w0 blk off d wr)) (fun vi vj _ _ => (intOf vj).toNat - (intOf vi).toNat)
  case atStart => exact ⟨a, m, rfl, rfl, by omega, by omega, by omega, fun k _ _ => by omega, fun k _ _ => by omega, S0.out⟩
  case round =>
    clear S0
    obtain ⟨i, j, rfl, rfl, h1, h2, h3, HL, HR, HS⟩ := hrel
    by_cases c : i < j
    · have hlt : (i : Int) < (j : Int) := by omega
      have rs : IntKind.i64.wrap ((i : Int) + (j : Int)) = ((i + j : Nat) : Int) := (IntWalk.i64_in _ (by omega)).trans (by omega)
      obtain ⟨h, hh⟩ : ∃ h : Nat, (i + j) / 2 = h := ⟨_, rfl⟩
      have hz : ((i : Int) + (j : Int)) / 2 = (h : Int) := by omega
      go_wp2_with fail
      have bh : (h : Int) < (d.size : Int) := by omega
      have ba : (m : Int) < (d.size : Int) := by omega
      have l1 : ∀ n os, (grow (wr.drewN n) os).cell? ⟨blk, off + h, none⟩ = some (.int .i64 (cl nn d[h]!)) := HS.out.cl R (by omega) h (by omega)
      have l2 : ∀ n os, (grow (wr.drewN n) os).cell? ⟨blk, off + m, none⟩ = some (.int .i64 (cl nn d[m]!)) := HS.out.cl R (by omega) m (by omega)
      have lc := HS.out.cmp HC.out (by omega) d[m]! d[h]!
      have nx : d[h]! = vw d h := rfl
      have ny : d[m]! = vw d m := rfl
      have hcr := hc h m (by omega) (by omega) (Nat.le_refl _) (by omega)
      by_cases q : wt (vw d m) < wt (vw d h)
      · have hhi : ∀ k, h ≤ k → k < m → lx wt (vw d m) (vw d k) := fun k q1 q2 => by
          by_cases e : k = h
          · rw [e]; exact .inl q
          · exact lx_trans (.inl q) (hx h k (by omega) (by omega) q2)
        have HR2 := Lib.hid hhi
        have hq : cfW wt d[m]! d[h]! < 0 := by unfold cfW; rw [nx, ny]; omega
        have hd : decide (cfW wt d[m]! d[h]! < 0) = true := decide_eq_true hq
        clear hhi q hcr nx ny HR
        generalize d[h]! = x at l1 lc hq hd
        generalize d[m]! = y at l2 lc hq hd
        go_quiet_grown (first | (go_at_call 35; refine Calls.grown_of (lc _ _)))
        have S2 := Lib.hid (HS.out.grown nq osq)
        clear l1 l2 lc hq hd HS
        generalize grow (wr.drewN nq) osq = w2 at S2 ⊢
        go_wp2
        go_roundw
        case rel => exact ⟨i, h, rfl, rfl, h1, by omega, by omega, HL.out, HR2.out, S2.out⟩
        case measure => simp [intOf]; omega
      · have hlo : ∀ k, a ≤ k → k < h + 1 → lx wt (vw d k) (vw d m) := fun k q1 q2 => by
          have q3 : lx wt (vw d h) (vw d m) := by unfold lx; omega
          by_cases e : k = h
          · rw [e]; exact q3
          · exact lx_trans (hx k h q1 (by omega) (by omega)) q3
        have HL2 := Lib.hid hlo
        have hq : ¬ cfW wt d[m]! d[h]! < 0 := by unfold cfW; rw [nx, ny]; omega
        have hd : decide (cfW wt d[m]! d[h]! < 0) = false := decide_eq_false hq
        clear hlo q hcr nx ny HL
        generalize d[h]! = x at l1 lc hq hd
        generalize d[m]! = y at l2 lc hq hd
        go_quiet_grown (first | (go_at_call 35; refine Calls.grown_of (lc _ _)))
        have S2 := Lib.hid (HS.out.grown nq osq)
        clear l1 l2 lc hq hd HS
        generalize grow (wr.drewN nq) osq = w2 at S2 ⊢
        go_wp2
        go_roundw
        case rel => exact ⟨h + 1, j, by go_num, rfl, by omega, by omega, h3, HL2.out, HR.out, S2.out⟩
        case measure => simp [intOf]; omega
    · obtain rfl : i = j := by omega
      have e0 : rot (vw d) m m (m + 1) = vw d := rot_none _ (.inl rfl) (by omega) (by omega)
      have HF := Lib.hid (last_into hx h1 h3 HL.out HR.out)
      have HM : Hid (Sm (vw d) (rot (vw d) i m (m + 1)) a (m + 1)) := (rot_sm (vw d) h3 (by omega)).wide (rot_of _ _ _ _) h1 (Nat.le_refl _)
      have HO : Hid (Of (vw d) (rot (vw d) i m (m + 1)) a (m + 1)) := (rot_of (vw d) i m (m + 1)).wide h1 (Nat.le_refl _)
      have E0 := Lib.hid e0
      clear e0 HL HR
      go_wp2
      go_loopw [17] (fun vk wk => ∃ (k : Nat) (dk : Array Int), vk = .int .i64 k ∧ i ≤ k ∧ k ≤ m ∧ dk.size = d.size ∧ Hid (vw dk = rot (vw d) k m (m + 1)) ∧ Hid (SW (eN nn) w0 blk off dk wk)) (fun vk _ => (intOf vk).toNat)
      case atStart => exact ⟨m, d, rfl, h3, Nat.le_refl _, rfl, E0.out.symm, HS.out⟩
      case round =>
        clear HS
        obtain ⟨k, dk, rfl, k1, k2, hsd, HV, HK⟩ := hrel
        by_cases c2 : i < k
        · have hlt : (i : Int) < (k : Int) := by omega
          obtain ⟨p, hp⟩ : ∃ p, p + 1 = k := ⟨k - 1, by omega⟩
          have rp : IntKind.i64.wrap ((k : Int) - 1) = (p : Int) := (IntWalk.i64_in _ (by omega)).trans (by omega)
          have bp : (p : Int) < (d.size : Int) := by omega
          have bk : (k : Int) < (d.size : Int) := by omega
          have c1 := HK.out.c1 R (by omega) k (by omega)
          have c3 := HK.out.c1 R (by omega) p (by omega)
          have f1 := HK.out.f1 R (by omega) k (by omega)
          have f2 := HK.out.f1 R (by omega) p (by omega)
          obtain ⟨u3, c4⟩ := HK.out.c2 R (by omega) k p (by omega) (by omega) ((eN nn) dk[p]!)
          have HX : Hid (SW (eN nn) w0 blk off (swp dk k p) ((wr.setCell ⟨blk, off + k, none⟩ ((eN nn) dk[p]!)).setCell ⟨blk, off + p, none⟩ ((eN nn) dk[k]!)).drew) := HK.out.swapped R k p (by omega) (by omega)
          have HW : Hid (vw (swp dk k p) = rot (vw d) p m (m + 1)) := by
            funext x
            rw [vw_swp dk (by omega) (by omega), rot_left_one (by omega), hp, ← HV.out]
          generalize dk[k]! = x at c1 c4 HX
          generalize dk[p]! = y at c3 c4 HX
          simp only [eN] at c1 c3 c4 HX
          clear HV HK
          go_wp2_with fail
          go_big_region
          clear c1 c3 c4 f1 f2
          generalize ((wr.setCell ⟨blk, off + k, none⟩ (.int .i64 (cl nn y))).setCell ⟨blk, off + p, none⟩ (.int .i64 (cl nn x))).drew = w3 at HX ⊢
          go_wp2
          go_roundw
          case rel => exact ⟨p, swp dk k p, by first | rfl | go_num, by omega, by omega, by rw [size_swp]; exact hsd, HW, HX⟩
          case measure => simp [intOf]; omega
        · have hlt : ¬ (i : Int) < (k : Int) := by omega
          obtain rfl : k = i := by omega
          go_wp2
          (try simp only [Exit.inBlock, Exit.then])
          refine bodyPost_ret (results_none rfl _ _ _) rfl ?_
          exact ⟨rfl, dk, hsd, by rw [HV.out]; exact HF.out, by rw [HV.out]; exact HM.out, by rw [HV.out]; exact HO.out, HK.out⟩
end Go.Proofs.YtckcbfnffmohgaaDoor
