/-
  slices.symMergeCmpFunc at rows of ints, by span.light's closure: whatever the places. Printed by wip/ssgen.py. Conditions: as in Ss4.
-/
import Derived.Test.YtckcbfnffmohgaaDoorSs4
namespace Go.Proofs.YtckcbfnffmohgaaDoor
open Go Go.Shelf Go.RowKit Go.Lib Go.Sort SS
set_option linter.unusedVariables false
variable {nn : Nat}

theorem cut_of {wt : Int → Int} {f : Nat → Int} {a m b mid s lo hi : Nat} (ham : a < m) (hmb : m < b) (h1 : a ≤ mid) (h2 : mid ≤ b) (l1 : a ≤ lo) (l2 : lo ≤ s) (l3 : s ≤ hi) (l4 : hi ≤ m) (l5 : hi ≤ mid) (l6 : mid + m ≤ b + lo) (e1 : lo = a ∨ lo + b = mid + m) (e2 : hi = m ∨ hi = mid)
    (HL : ∀ c, lo ≤ c → c < s → lx wt (f c) (f (mid + m - 1 - c))) (HR : ∀ c, s ≤ c → c < hi → lx wt (f (mid + m - 1 - c)) (f c)) : Cut wt f a m b mid s (mid + m - s) := by
  refine ⟨by omega, by omega, by omega, by omega, by omega, h1, h2, fun q1 q2 => ?_, fun q1 q2 => ?_⟩
  · have := HR s (Nat.le_refl _) (by omega)
    rwa [show mid + m - 1 - s = mid + m - s - 1 by omega] at this
  · have := HL (s - 1) (by omega) (by omega)
    rwa [show mid + m - 1 - (s - 1) = mid + m - s by omega] at this

theorem sym_done {wt : Int → Int} {d d1 d2 d3 : Array Int} {a m b mid st en : Nat} (h1 : a ≤ mid) (h2 : mid ≤ b) (h3 : a ≤ st) (h4 : st ≤ m) (h5 : m ≤ en) (h6 : en ≤ b) (V : vw d1 = rot (vw d) st m en) (T : Tn wt (vw d1) a mid b st en) (B : So wt (vw d2) a mid ∧ Sm (vw d1) (vw d2) a mid ∧ Of (vw d1) (vw d2) a mid) (c1 : So wt (vw d3) mid b) (c2 : Sm (vw d2) (vw d3) mid b) (c3 : Of (vw d2) (vw d3) mid b) :
    So wt (vw d3) a b ∧ Sm (vw d) (vw d3) a b ∧ Of (vw d) (vw d3) a b := by
  obtain ⟨e1, e2, e3⟩ := T.done h1 h2 B.2.2 B.2.1 B.1 c3 c2 c1
  have o := rot_of (vw d) st m en
  have s := rot_sm (vw d) h4 h5
  rw [← V] at o s
  exact ⟨e1, (s.wide o h3 h6).trans e3, (o.wide h3 h6).trans e2⟩

/-- What symMerge is to do. -/
def SymC (nn : Nat) (wt : Int → Int) (w0 : World) (d0 : Array Int) (blk off : Nat) (cb : Array Value) (t : Nat) : Prop :=
  ∀ (cap a m b : Nat) (d : Array Int) (w : World), b - a ≤ t → a < m → m < b → b ≤ d.size → d0.size = d.size → SW (eN nn) w0 blk off d w → So wt (vw d) a m → So wt (vw d) m b → Cr (vw d) a m b →
    Calls Tryd.prog 58 #[.slice (some ⟨blk, off, none⟩) d.size cap, .int .i64 a, .int .i64 m, .int .i64 b, .func (.func 35) #[] cb] w fun e w' => e = .returned (.tuple #[]) ∧ ∃ d' : Array Int, d'.size = d.size ∧ So wt (vw d') a b ∧ Sm (vw d) (vw d') a b ∧ Of (vw d) (vw d') a b ∧ SW (eN nn) w0 blk off d' w'

set_option maxHeartbeats 2000000 in
set_option maxRecDepth 100000 in
theorem sym_great (wt : Int → Int) (w0 : World) (d0 : Array Int) (blk off cap a m b t : Nat) (d : Array Int) (w : World) (cb : Array Value) (ih : SymC nn wt w0 d0 blk off cb t) (ht : b - a ≤ t + 1) (hC : CmpLays1 Tryd.prog 35 cb (eN nn) (cfW wt) blk off d0.size w0) (R : Row1 (eN nn) w0 blk off d0) (hs : d0.size = d.size) (S : SW (eN nn) w0 blk off d w) (ham : a + 1 < m) (hmb : m + 1 < b) (hb : b ≤ d.size) (hsz : d.size < 100000)
    (hx : So wt (vw d) a m) (hy : So wt (vw d) m b) (hc : Cr (vw d) a m b) :
    Calls Tryd.prog 58 #[.slice (some ⟨blk, off, none⟩) d.size cap, .int .i64 a, .int .i64 m, .int .i64 b, .func (.func 35) #[] cb] w fun e w' => e = .returned (.tuple #[]) ∧ ∃ d' : Array Int, d'.size = d.size ∧ So wt (vw d') a b ∧ Sm (vw d) (vw d') a b ∧ Of (vw d) (vw d') a b ∧ SW (eN nn) w0 blk off d' w' := by
  have S0 : Hid (SW (eN nn) w0 blk off d w) := S
  have HC := Lib.hid hC
  have IH := Lib.hid ih
  have mixed : Tryd.prog.follows .mixedOrders = true := by kernel_rfl
  clear S hC ih
  obtain ⟨x0, hx0⟩ : ∃ x0, a + x0 = m := ⟨m - a, by omega⟩
  obtain ⟨y0, hy0⟩ : ∃ y0, m + y0 = b := ⟨b - m, by omega⟩
  have r0 : IntKind.i64.wrap ((m : Int) - (a : Int)) = (x0 : Int) := (IntWalk.i64_in _ (by omega)).trans (by omega)
  have z0 : ((x0 : Int) == 1) = false := by rw [beq_eq_false_iff_ne]; omega
  have z1 : ¬ (x0 : Int) = 1 := by omega
  have r1 : IntKind.i64.wrap ((b : Int) - (m : Int)) = (y0 : Int) := (IntWalk.i64_in _ (by omega)).trans (by omega)
  have z2 : ((y0 : Int) == 1) = false := by rw [beq_eq_false_iff_ne]; omega
  have z3 : ¬ (y0 : Int) = 1 := by omega
  obtain ⟨mid, hmid⟩ : ∃ mid, (a + b) / 2 = mid := ⟨_, rfl⟩
  have r2 : IntKind.i64.wrap ((a : Int) + (b : Int)) = ((a + b : Nat) : Int) := (IntWalk.i64_in _ (by omega)).trans (by omega)
  have hz : ((a : Int) + (b : Int)) / 2 = (mid : Int) := by omega
  obtain ⟨n0, hn0⟩ : ∃ n0, mid + m = n0 := ⟨_, rfl⟩
  have r3 : IntKind.i64.wrap ((mid : Int) + (m : Int)) = (n0 : Int) := (IntWalk.i64_in _ (by omega)).trans (by omega)
  obtain ⟨p0, hp0⟩ : ∃ p0, p0 + 1 = n0 := ⟨n0 - 1, by omega⟩
  have r4 : IntKind.i64.wrap ((n0 : Int) - 1) = (p0 : Int) := (IntWalk.i64_in _ (by omega)).trans (by omega)
  go_enter Tryd.func58, Tryd.ntmps58
  by_cases cm : mid < m
  · obtain ⟨lo, hlo⟩ : ∃ lo, lo + b = n0 := ⟨n0 - b, by omega⟩
    have r5 : IntKind.i64.wrap ((n0 : Int) - (b : Int)) = (lo : Int) := (IntWalk.i64_in _ (by omega)).trans (by omega)
    have cz : (mid : Int) < (m : Int) := by omega
    obtain ⟨hi, hhi⟩ : ∃ hi, hi = mid := ⟨_, rfl⟩
    have e1 : lo = a ∨ lo + b = mid + m := by omega
    have e2 : hi = m ∨ hi = mid := by omega
    have f1 : a ≤ lo ∧ lo ≤ hi ∧ hi ≤ m ∧ hi ≤ mid ∧ mid + m ≤ b + lo := by omega
    go_wp2
    go_loopw [20, 21, 23] (fun vi vj _ wr => ∃ (i j : Nat), vi = .int .i64 i ∧ vj = .int .i64 j ∧ lo ≤ i ∧ i ≤ j ∧ j ≤ hi ∧ Hid (∀ c, lo ≤ c → c < i → lx wt (vw d c) (vw d (mid + m - 1 - c))) ∧ Hid (∀ c, j ≤ c → c < hi → lx wt (vw d (mid + m - 1 - c)) (vw d c)) ∧ Hid (SW (eN nn) w0 blk off d wr)) (fun vi vj _ _ => (intOf vj).toNat - (intOf vi).toNat)
    case atStart => exact ⟨lo, hi, by first | rfl | (rw [hlo]), by first | rfl | (rw [hhi]), by omega, by omega, by omega, fun k _ _ => by omega, fun k _ _ => by omega, S0.out⟩
    case round =>
      clear S0
      obtain ⟨i, j, rfl, rfl, h1, h2, h3, HL, HR, HS⟩ := hrel
      by_cases c : i < j
      · have hlt : (i : Int) < (j : Int) := by omega
        have rs : IntKind.i64.wrap ((i : Int) + (j : Int)) = ((i + j : Nat) : Int) := (IntWalk.i64_in _ (by omega)).trans (by omega)
        obtain ⟨h, hh⟩ : ∃ h : Nat, (i + j) / 2 = h := ⟨_, rfl⟩
        have hz2 : ((i : Int) + (j : Int)) / 2 = (h : Int) := by omega
        obtain ⟨e, he⟩ : ∃ e, e + h = p0 := ⟨p0 - h, by omega⟩
        have hpe : mid + m - 1 - h = e := by omega
        have re : IntKind.i64.wrap ((p0 : Int) - (h : Int)) = (e : Int) := (IntWalk.i64_in _ (by omega)).trans (by omega)
        go_wp2_with fail
        have bh : (h : Int) < (d.size : Int) := by omega
        have be : (e : Int) < (d.size : Int) := by omega
        have l1 : ∀ n os, (grow (wr.drewN n) os).cell? ⟨blk, off + h, none⟩ = some (.int .i64 (cl nn d[h]!)) := HS.out.cl R (by omega) h (by omega)
        have l2 : ∀ n os, (grow (wr.drewN n) os).cell? ⟨blk, off + e, none⟩ = some (.int .i64 (cl nn d[e]!)) := HS.out.cl R (by omega) e (by omega)
        have lc := HS.out.cmp HC.out (by omega) d[e]! d[h]!
        have nx : d[h]! = vw d h := rfl
        have ny : d[e]! = vw d e := rfl
        have hcr := hc h e (by omega) (by omega) (by omega) (by omega)
        by_cases q : wt (vw d e) < wt (vw d h)
        · have hhi2 : ∀ k, h ≤ k → k < hi → lx wt (vw d (mid + m - 1 - k)) (vw d k) := fun k q1 q2 => by
            have q3 : lx wt (vw d e) (vw d h) := .inl q
            by_cases e' : k = h
            · rw [e', hpe]; exact q3
            · exact lx_trans (hy (mid + m - 1 - k) e (by omega) (by omega) (by omega)) (lx_trans q3 (hx h k (by omega) (by omega) (by omega)))
          have HR2 := Lib.hid hhi2
          have hq : cfW wt d[e]! d[h]! < 0 := by unfold cfW; rw [nx, ny]; omega
          have hd : decide (cfW wt d[e]! d[h]! < 0) = true := decide_eq_true hq
          clear hhi2 q hcr nx ny HR
          generalize d[h]! = x at l1 lc hq hd
          generalize d[e]! = y at l2 lc hq hd
          go_quiet_grown (first | (go_at_call 35; refine Calls.grown_of (lc _ _)))
          have S2 := Lib.hid (HS.out.grown nq osq)
          clear l1 l2 lc hq hd HS
          generalize grow (wr.drewN nq) osq = w2 at S2 ⊢
          go_wp2
          go_roundw
          case rel => exact ⟨i, h, rfl, rfl, h1, by omega, by omega, HL.out, HR2.out, S2.out⟩
          case measure => simp [intOf]; omega
        · have hlo2 : ∀ k, lo ≤ k → k < h + 1 → lx wt (vw d k) (vw d (mid + m - 1 - k)) := fun k q1 q2 => by
            have q3 : lx wt (vw d h) (vw d e) := by unfold lx; omega
            by_cases e' : k = h
            · rw [e', hpe]; exact q3
            · exact lx_trans (hx k h (by omega) (by omega) (by omega)) (lx_trans q3 (hy e (mid + m - 1 - k) (by omega) (by omega) (by omega)))
          have HL2 := Lib.hid hlo2
          have hq : ¬ cfW wt d[e]! d[h]! < 0 := by unfold cfW; rw [nx, ny]; omega
          have hd : decide (cfW wt d[e]! d[h]! < 0) = false := decide_eq_false hq
          clear hlo2 q hcr nx ny HL
          generalize d[h]! = x at l1 lc hq hd
          generalize d[e]! = y at l2 lc hq hd
          go_quiet_grown (first | (go_at_call 35; refine Calls.grown_of (lc _ _)))
          have S2 := Lib.hid (HS.out.grown nq osq)
          clear l1 l2 lc hq hd HS
          generalize grow (wr.drewN nq) osq = w2 at S2 ⊢
          go_wp2
          go_roundw
          case rel => exact ⟨h + 1, j, by go_num, rfl, by omega, by omega, h3, HL2.out, HR.out, S2.out⟩
          case measure => simp [intOf]; omega
      · obtain rfl : i = j := by omega
        have HCut := Lib.hid (cut_of (by omega) (by omega) (by omega) (by omega) f1.1 h1 h3 f1.2.2.1 f1.2.2.2.1 f1.2.2.2.2 e1 e2 HL.out HR.out)
        clear HL HR
        obtain ⟨en, hen⟩ : ∃ en, en + i = n0 := ⟨n0 - i, by omega⟩
        have ren : IntKind.i64.wrap ((n0 : Int) - (i : Int)) = (en : Int) := (IntWalk.i64_in _ (by omega)).trans (by omega)
        have hen2 : mid + m - i = en := by omega
        rw [hen2] at HCut
        have HT := Lib.hid (HCut.out.turn hx hy hc)
        have w1 := HCut.out.sa; have w2 := HCut.out.sm; have w3 := HCut.out.me; have w4 := HCut.out.eb
        clear HCut
        by_cases y0 : i < m
        · by_cases y1 : m < en
          · by_cases y2 : a < i
            · by_cases y3 : en < b
              · have g1 : (i : Int) < (m : Int) := by omega
                have g2 : (m : Int) < (en : Int) := by omega
                have g3 : (a : Int) < (i : Int) := by omega
                have g4 : (i : Int) < (mid : Int) := by omega
                have g5 : (mid : Int) < (en : Int) := by omega
                have g6 : (en : Int) < (b : Int) := by omega
                go_wp2_with fail
                refine (rot_any w0 d0 blk off cap i m en d wr _ R hs HS.out (by omega) (by omega) (by omega) hsz).mono ?_
                rintro e w2 ⟨rfl, d1, s1, v1, t1⟩
                have V1 := Lib.hid v1
                have T1 := Lib.hid t1
                clear v1 t1
                have HT1 : Hid (Tn wt (vw d1) a mid b i en) := by rw [Hid, V1.out]; exact HT.out
                have q2 := IH.out cap a i mid d1 w2 (by omega) (by omega) (by omega) (by omega) (by omega) T1.out HT1.out.s1 HT1.out.s2 HT1.out.c1
                rw [s1] at q2
                have Q2 := Lib.hid q2
                clear q2
                go_wp2_with fail
                refine Q2.out.mono ?_
                rintro e w3 ⟨rfl, d2, s2, b1, b2, b3, t2⟩
                have B := Lib.hid (show So wt (vw d2) a mid ∧ Sm (vw d1) (vw d2) a mid ∧ Of (vw d1) (vw d2) a mid from ⟨b1, b2, b3⟩)
                have T2 := Lib.hid t2
                clear b1 b2 b3 t2
                have C3 : Hid (So wt (vw d2) mid en ∧ So wt (vw d2) en b ∧ Cr (vw d2) mid en b) := ⟨HT1.out.s3.of fun k q _ => B.out.2.2 k (.inr q), HT1.out.s4.of fun k q _ => B.out.2.2 k (.inr (by omega)), fun x y q1 q2 q3 q4 => by rw [B.out.2.2 x (.inr q1), B.out.2.2 y (.inr (by omega))]; exact HT1.out.c2 x y q1 q2 q3 q4⟩
                have q3 := IH.out cap mid en b d2 w3 (by omega) (by omega) (by omega) (by omega) (by omega) T2.out C3.out.1 C3.out.2.1 C3.out.2.2
                rw [s2] at q3
                have Q3 := Lib.hid q3
                clear q3
                go_wp2_with fail
                refine Q3.out.mono ?_
                rintro e w4 ⟨rfl, d3, s3, c1, c2, c3, t3⟩
                have E := Lib.hid (sym_done (by omega) (by omega) (by omega) (by omega) (by omega) (by omega) V1.out HT1.out B.out c1 c2 c3)
                have T3 := Lib.hid t3
                clear c1 c2 c3 t3
                go_wp2
                all_goals go_end0
                all_goals exact ⟨rfl, d3, s3, E.out.1, E.out.2.1, E.out.2.2, T3.out⟩
              · have g1 : (i : Int) < (m : Int) := by omega
                have g2 : (m : Int) < (en : Int) := by omega
                have g3 : (a : Int) < (i : Int) := by omega
                have g4 : (i : Int) < (mid : Int) := by omega
                have g5 : (mid : Int) < (en : Int) := by omega
                have g6 : ¬ (en : Int) < (b : Int) := by omega
                go_wp2_with fail
                refine (rot_any w0 d0 blk off cap i m en d wr _ R hs HS.out (by omega) (by omega) (by omega) hsz).mono ?_
                rintro e w2 ⟨rfl, d1, s1, v1, t1⟩
                have V1 := Lib.hid v1
                have T1 := Lib.hid t1
                clear v1 t1
                have HT1 : Hid (Tn wt (vw d1) a mid b i en) := by rw [Hid, V1.out]; exact HT.out
                have q2 := IH.out cap a i mid d1 w2 (by omega) (by omega) (by omega) (by omega) (by omega) T1.out HT1.out.s1 HT1.out.s2 HT1.out.c1
                rw [s1] at q2
                have Q2 := Lib.hid q2
                clear q2
                go_wp2_with fail
                refine Q2.out.mono ?_
                rintro e w3 ⟨rfl, d2, s2, b1, b2, b3, t2⟩
                have B := Lib.hid (show So wt (vw d2) a mid ∧ Sm (vw d1) (vw d2) a mid ∧ Of (vw d1) (vw d2) a mid from ⟨b1, b2, b3⟩)
                have T2 := Lib.hid t2
                clear b1 b2 b3 t2
                have C3 : Hid (So wt (vw d2) mid en ∧ So wt (vw d2) en b ∧ Cr (vw d2) mid en b) := ⟨HT1.out.s3.of fun k q _ => B.out.2.2 k (.inr q), HT1.out.s4.of fun k q _ => B.out.2.2 k (.inr (by omega)), fun x y q1 q2 q3 q4 => by rw [B.out.2.2 x (.inr q1), B.out.2.2 y (.inr (by omega))]; exact HT1.out.c2 x y q1 q2 q3 q4⟩
                obtain ⟨d3, s3, c1, c2, c3, t3⟩ : ∃ d3 : Array Int, d3.size = d.size ∧ So wt (vw d3) mid b ∧ Sm (vw d2) (vw d3) mid b ∧ Of (vw d2) (vw d3) mid b ∧ SW (eN nn) w0 blk off d3 w3 := ⟨d2, s2, by have q := C3.out.1; rwa [show en = b by omega] at q, Sm.refl _ _ _, Of.refl _ _ _, T2.out⟩
                have E := Lib.hid (sym_done (by omega) (by omega) (by omega) (by omega) (by omega) (by omega) V1.out HT1.out B.out c1 c2 c3)
                have T3 := Lib.hid t3
                clear c1 c2 c3 t3
                go_wp2
                all_goals go_end0
                all_goals exact ⟨rfl, d3, s3, E.out.1, E.out.2.1, E.out.2.2, T3.out⟩
            · by_cases y3 : en < b
              · have g1 : (i : Int) < (m : Int) := by omega
                have g2 : (m : Int) < (en : Int) := by omega
                have g3 : ¬ (a : Int) < (i : Int) := by omega
                have g4 : (i : Int) < (mid : Int) := by omega
                have g5 : (mid : Int) < (en : Int) := by omega
                have g6 : (en : Int) < (b : Int) := by omega
                go_wp2_with fail
                refine (rot_any w0 d0 blk off cap i m en d wr _ R hs HS.out (by omega) (by omega) (by omega) hsz).mono ?_
                rintro e w2 ⟨rfl, d1, s1, v1, t1⟩
                have V1 := Lib.hid v1
                have T1 := Lib.hid t1
                clear v1 t1
                have HT1 : Hid (Tn wt (vw d1) a mid b i en) := by rw [Hid, V1.out]; exact HT.out
                obtain ⟨d2, s2, b1, b2, b3, t2⟩ : ∃ d2 : Array Int, d2.size = d.size ∧ So wt (vw d2) a mid ∧ Sm (vw d1) (vw d2) a mid ∧ Of (vw d1) (vw d2) a mid ∧ SW (eN nn) w0 blk off d2 w2 := ⟨d1, s1, by have q := HT1.out.s2; rwa [show i = a by omega] at q, Sm.refl _ _ _, Of.refl _ _ _, T1.out⟩
                have B := Lib.hid (show So wt (vw d2) a mid ∧ Sm (vw d1) (vw d2) a mid ∧ Of (vw d1) (vw d2) a mid from ⟨b1, b2, b3⟩)
                have T2 := Lib.hid t2
                clear b1 b2 b3 t2
                have C3 : Hid (So wt (vw d2) mid en ∧ So wt (vw d2) en b ∧ Cr (vw d2) mid en b) := ⟨HT1.out.s3.of fun k q _ => B.out.2.2 k (.inr q), HT1.out.s4.of fun k q _ => B.out.2.2 k (.inr (by omega)), fun x y q1 q2 q3 q4 => by rw [B.out.2.2 x (.inr q1), B.out.2.2 y (.inr (by omega))]; exact HT1.out.c2 x y q1 q2 q3 q4⟩
                have q3 := IH.out cap mid en b d2 w2 (by omega) (by omega) (by omega) (by omega) (by omega) T2.out C3.out.1 C3.out.2.1 C3.out.2.2
                rw [s2] at q3
                have Q3 := Lib.hid q3
                clear q3
                go_wp2_with fail
                refine Q3.out.mono ?_
                rintro e w4 ⟨rfl, d3, s3, c1, c2, c3, t3⟩
                have E := Lib.hid (sym_done (by omega) (by omega) (by omega) (by omega) (by omega) (by omega) V1.out HT1.out B.out c1 c2 c3)
                have T3 := Lib.hid t3
                clear c1 c2 c3 t3
                go_wp2
                all_goals go_end0
                all_goals exact ⟨rfl, d3, s3, E.out.1, E.out.2.1, E.out.2.2, T3.out⟩
              · have g1 : (i : Int) < (m : Int) := by omega
                have g2 : (m : Int) < (en : Int) := by omega
                have g3 : ¬ (a : Int) < (i : Int) := by omega
                have g4 : (i : Int) < (mid : Int) := by omega
                have g5 : (mid : Int) < (en : Int) := by omega
                have g6 : ¬ (en : Int) < (b : Int) := by omega
                go_wp2_with fail
                refine (rot_any w0 d0 blk off cap i m en d wr _ R hs HS.out (by omega) (by omega) (by omega) hsz).mono ?_
                rintro e w2 ⟨rfl, d1, s1, v1, t1⟩
                have V1 := Lib.hid v1
                have T1 := Lib.hid t1
                clear v1 t1
                have HT1 : Hid (Tn wt (vw d1) a mid b i en) := by rw [Hid, V1.out]; exact HT.out
                obtain ⟨d2, s2, b1, b2, b3, t2⟩ : ∃ d2 : Array Int, d2.size = d.size ∧ So wt (vw d2) a mid ∧ Sm (vw d1) (vw d2) a mid ∧ Of (vw d1) (vw d2) a mid ∧ SW (eN nn) w0 blk off d2 w2 := ⟨d1, s1, by have q := HT1.out.s2; rwa [show i = a by omega] at q, Sm.refl _ _ _, Of.refl _ _ _, T1.out⟩
                have B := Lib.hid (show So wt (vw d2) a mid ∧ Sm (vw d1) (vw d2) a mid ∧ Of (vw d1) (vw d2) a mid from ⟨b1, b2, b3⟩)
                have T2 := Lib.hid t2
                clear b1 b2 b3 t2
                have C3 : Hid (So wt (vw d2) mid en ∧ So wt (vw d2) en b ∧ Cr (vw d2) mid en b) := ⟨HT1.out.s3.of fun k q _ => B.out.2.2 k (.inr q), HT1.out.s4.of fun k q _ => B.out.2.2 k (.inr (by omega)), fun x y q1 q2 q3 q4 => by rw [B.out.2.2 x (.inr q1), B.out.2.2 y (.inr (by omega))]; exact HT1.out.c2 x y q1 q2 q3 q4⟩
                obtain ⟨d3, s3, c1, c2, c3, t3⟩ : ∃ d3 : Array Int, d3.size = d.size ∧ So wt (vw d3) mid b ∧ Sm (vw d2) (vw d3) mid b ∧ Of (vw d2) (vw d3) mid b ∧ SW (eN nn) w0 blk off d3 w2 := ⟨d2, s2, by have q := C3.out.1; rwa [show en = b by omega] at q, Sm.refl _ _ _, Of.refl _ _ _, T2.out⟩
                have E := Lib.hid (sym_done (by omega) (by omega) (by omega) (by omega) (by omega) (by omega) V1.out HT1.out B.out c1 c2 c3)
                have T3 := Lib.hid t3
                clear c1 c2 c3 t3
                go_wp2
                all_goals go_end0
                all_goals exact ⟨rfl, d3, s3, E.out.1, E.out.2.1, E.out.2.2, T3.out⟩
          · by_cases y2 : a < i
            · by_cases y3 : en < b
              · have g1 : (i : Int) < (m : Int) := by omega
                have g2 : ¬ (m : Int) < (en : Int) := by omega
                have g3 : (a : Int) < (i : Int) := by omega
                have g4 : ¬ (i : Int) < (mid : Int) := by omega
                have g5 : (mid : Int) < (en : Int) := by omega
                have g6 : (en : Int) < (b : Int) := by omega
                obtain ⟨d1, s1, v1, t1⟩ : ∃ d1 : Array Int, d1.size = d.size ∧ vw d1 = rot (vw d) i m en ∧ SW (eN nn) w0 blk off d1 wr := ⟨d, rfl, (rot_none _ (by omega) (by omega) (by omega)).symm, HS.out⟩
                have V1 := Lib.hid v1
                have T1 := Lib.hid t1
                clear v1 t1
                have HT1 : Hid (Tn wt (vw d1) a mid b i en) := by rw [Hid, V1.out]; exact HT.out
                obtain ⟨d2, s2, b1, b2, b3, t2⟩ : ∃ d2 : Array Int, d2.size = d.size ∧ So wt (vw d2) a mid ∧ Sm (vw d1) (vw d2) a mid ∧ Of (vw d1) (vw d2) a mid ∧ SW (eN nn) w0 blk off d2 wr := ⟨d1, s1, by have q := HT1.out.s1; rwa [show i = mid by omega] at q, Sm.refl _ _ _, Of.refl _ _ _, T1.out⟩
                have B := Lib.hid (show So wt (vw d2) a mid ∧ Sm (vw d1) (vw d2) a mid ∧ Of (vw d1) (vw d2) a mid from ⟨b1, b2, b3⟩)
                have T2 := Lib.hid t2
                clear b1 b2 b3 t2
                have C3 : Hid (So wt (vw d2) mid en ∧ So wt (vw d2) en b ∧ Cr (vw d2) mid en b) := ⟨HT1.out.s3.of fun k q _ => B.out.2.2 k (.inr q), HT1.out.s4.of fun k q _ => B.out.2.2 k (.inr (by omega)), fun x y q1 q2 q3 q4 => by rw [B.out.2.2 x (.inr q1), B.out.2.2 y (.inr (by omega))]; exact HT1.out.c2 x y q1 q2 q3 q4⟩
                have q3 := IH.out cap mid en b d2 wr (by omega) (by omega) (by omega) (by omega) (by omega) T2.out C3.out.1 C3.out.2.1 C3.out.2.2
                rw [s2] at q3
                have Q3 := Lib.hid q3
                clear q3
                go_wp2_with fail
                refine Q3.out.mono ?_
                rintro e w4 ⟨rfl, d3, s3, c1, c2, c3, t3⟩
                have E := Lib.hid (sym_done (by omega) (by omega) (by omega) (by omega) (by omega) (by omega) V1.out HT1.out B.out c1 c2 c3)
                have T3 := Lib.hid t3
                clear c1 c2 c3 t3
                go_wp2
                all_goals go_end0
                all_goals exact ⟨rfl, d3, s3, E.out.1, E.out.2.1, E.out.2.2, T3.out⟩
              · have g1 : (i : Int) < (m : Int) := by omega
                have g2 : ¬ (m : Int) < (en : Int) := by omega
                have g3 : (a : Int) < (i : Int) := by omega
                have g4 : ¬ (i : Int) < (mid : Int) := by omega
                have g5 : (mid : Int) < (en : Int) := by omega
                have g6 : ¬ (en : Int) < (b : Int) := by omega
                obtain ⟨d1, s1, v1, t1⟩ : ∃ d1 : Array Int, d1.size = d.size ∧ vw d1 = rot (vw d) i m en ∧ SW (eN nn) w0 blk off d1 wr := ⟨d, rfl, (rot_none _ (by omega) (by omega) (by omega)).symm, HS.out⟩
                have V1 := Lib.hid v1
                have T1 := Lib.hid t1
                clear v1 t1
                have HT1 : Hid (Tn wt (vw d1) a mid b i en) := by rw [Hid, V1.out]; exact HT.out
                obtain ⟨d2, s2, b1, b2, b3, t2⟩ : ∃ d2 : Array Int, d2.size = d.size ∧ So wt (vw d2) a mid ∧ Sm (vw d1) (vw d2) a mid ∧ Of (vw d1) (vw d2) a mid ∧ SW (eN nn) w0 blk off d2 wr := ⟨d1, s1, by have q := HT1.out.s1; rwa [show i = mid by omega] at q, Sm.refl _ _ _, Of.refl _ _ _, T1.out⟩
                have B := Lib.hid (show So wt (vw d2) a mid ∧ Sm (vw d1) (vw d2) a mid ∧ Of (vw d1) (vw d2) a mid from ⟨b1, b2, b3⟩)
                have T2 := Lib.hid t2
                clear b1 b2 b3 t2
                have C3 : Hid (So wt (vw d2) mid en ∧ So wt (vw d2) en b ∧ Cr (vw d2) mid en b) := ⟨HT1.out.s3.of fun k q _ => B.out.2.2 k (.inr q), HT1.out.s4.of fun k q _ => B.out.2.2 k (.inr (by omega)), fun x y q1 q2 q3 q4 => by rw [B.out.2.2 x (.inr q1), B.out.2.2 y (.inr (by omega))]; exact HT1.out.c2 x y q1 q2 q3 q4⟩
                obtain ⟨d3, s3, c1, c2, c3, t3⟩ : ∃ d3 : Array Int, d3.size = d.size ∧ So wt (vw d3) mid b ∧ Sm (vw d2) (vw d3) mid b ∧ Of (vw d2) (vw d3) mid b ∧ SW (eN nn) w0 blk off d3 wr := ⟨d2, s2, by have q := C3.out.1; rwa [show en = b by omega] at q, Sm.refl _ _ _, Of.refl _ _ _, T2.out⟩
                have E := Lib.hid (sym_done (by omega) (by omega) (by omega) (by omega) (by omega) (by omega) V1.out HT1.out B.out c1 c2 c3)
                have T3 := Lib.hid t3
                clear c1 c2 c3 t3
                go_wp2
                all_goals go_end0
                all_goals exact ⟨rfl, d3, s3, E.out.1, E.out.2.1, E.out.2.2, T3.out⟩
            · by_cases y3 : en < b
              · have g1 : (i : Int) < (m : Int) := by omega
                have g2 : ¬ (m : Int) < (en : Int) := by omega
                have g3 : ¬ (a : Int) < (i : Int) := by omega
                have g4 : ¬ (i : Int) < (mid : Int) := by omega
                have g5 : (mid : Int) < (en : Int) := by omega
                have g6 : (en : Int) < (b : Int) := by omega
                obtain ⟨d1, s1, v1, t1⟩ : ∃ d1 : Array Int, d1.size = d.size ∧ vw d1 = rot (vw d) i m en ∧ SW (eN nn) w0 blk off d1 wr := ⟨d, rfl, (rot_none _ (by omega) (by omega) (by omega)).symm, HS.out⟩
                have V1 := Lib.hid v1
                have T1 := Lib.hid t1
                clear v1 t1
                have HT1 : Hid (Tn wt (vw d1) a mid b i en) := by rw [Hid, V1.out]; exact HT.out
                obtain ⟨d2, s2, b1, b2, b3, t2⟩ : ∃ d2 : Array Int, d2.size = d.size ∧ So wt (vw d2) a mid ∧ Sm (vw d1) (vw d2) a mid ∧ Of (vw d1) (vw d2) a mid ∧ SW (eN nn) w0 blk off d2 wr := ⟨d1, s1, by have q := HT1.out.s2; rwa [show i = a by omega] at q, Sm.refl _ _ _, Of.refl _ _ _, T1.out⟩
                have B := Lib.hid (show So wt (vw d2) a mid ∧ Sm (vw d1) (vw d2) a mid ∧ Of (vw d1) (vw d2) a mid from ⟨b1, b2, b3⟩)
                have T2 := Lib.hid t2
                clear b1 b2 b3 t2
                have C3 : Hid (So wt (vw d2) mid en ∧ So wt (vw d2) en b ∧ Cr (vw d2) mid en b) := ⟨HT1.out.s3.of fun k q _ => B.out.2.2 k (.inr q), HT1.out.s4.of fun k q _ => B.out.2.2 k (.inr (by omega)), fun x y q1 q2 q3 q4 => by rw [B.out.2.2 x (.inr q1), B.out.2.2 y (.inr (by omega))]; exact HT1.out.c2 x y q1 q2 q3 q4⟩
                have q3 := IH.out cap mid en b d2 wr (by omega) (by omega) (by omega) (by omega) (by omega) T2.out C3.out.1 C3.out.2.1 C3.out.2.2
                rw [s2] at q3
                have Q3 := Lib.hid q3
                clear q3
                go_wp2_with fail
                refine Q3.out.mono ?_
                rintro e w4 ⟨rfl, d3, s3, c1, c2, c3, t3⟩
                have E := Lib.hid (sym_done (by omega) (by omega) (by omega) (by omega) (by omega) (by omega) V1.out HT1.out B.out c1 c2 c3)
                have T3 := Lib.hid t3
                clear c1 c2 c3 t3
                go_wp2
                all_goals go_end0
                all_goals exact ⟨rfl, d3, s3, E.out.1, E.out.2.1, E.out.2.2, T3.out⟩
              · have g1 : (i : Int) < (m : Int) := by omega
                have g2 : ¬ (m : Int) < (en : Int) := by omega
                have g3 : ¬ (a : Int) < (i : Int) := by omega
                have g4 : ¬ (i : Int) < (mid : Int) := by omega
                have g5 : (mid : Int) < (en : Int) := by omega
                have g6 : ¬ (en : Int) < (b : Int) := by omega
                obtain ⟨d1, s1, v1, t1⟩ : ∃ d1 : Array Int, d1.size = d.size ∧ vw d1 = rot (vw d) i m en ∧ SW (eN nn) w0 blk off d1 wr := ⟨d, rfl, (rot_none _ (by omega) (by omega) (by omega)).symm, HS.out⟩
                have V1 := Lib.hid v1
                have T1 := Lib.hid t1
                clear v1 t1
                have HT1 : Hid (Tn wt (vw d1) a mid b i en) := by rw [Hid, V1.out]; exact HT.out
                obtain ⟨d2, s2, b1, b2, b3, t2⟩ : ∃ d2 : Array Int, d2.size = d.size ∧ So wt (vw d2) a mid ∧ Sm (vw d1) (vw d2) a mid ∧ Of (vw d1) (vw d2) a mid ∧ SW (eN nn) w0 blk off d2 wr := ⟨d1, s1, by have q := HT1.out.s2; rwa [show i = a by omega] at q, Sm.refl _ _ _, Of.refl _ _ _, T1.out⟩
                have B := Lib.hid (show So wt (vw d2) a mid ∧ Sm (vw d1) (vw d2) a mid ∧ Of (vw d1) (vw d2) a mid from ⟨b1, b2, b3⟩)
                have T2 := Lib.hid t2
                clear b1 b2 b3 t2
                have C3 : Hid (So wt (vw d2) mid en ∧ So wt (vw d2) en b ∧ Cr (vw d2) mid en b) := ⟨HT1.out.s3.of fun k q _ => B.out.2.2 k (.inr q), HT1.out.s4.of fun k q _ => B.out.2.2 k (.inr (by omega)), fun x y q1 q2 q3 q4 => by rw [B.out.2.2 x (.inr q1), B.out.2.2 y (.inr (by omega))]; exact HT1.out.c2 x y q1 q2 q3 q4⟩
                obtain ⟨d3, s3, c1, c2, c3, t3⟩ : ∃ d3 : Array Int, d3.size = d.size ∧ So wt (vw d3) mid b ∧ Sm (vw d2) (vw d3) mid b ∧ Of (vw d2) (vw d3) mid b ∧ SW (eN nn) w0 blk off d3 wr := ⟨d2, s2, by have q := C3.out.1; rwa [show en = b by omega] at q, Sm.refl _ _ _, Of.refl _ _ _, T2.out⟩
                have E := Lib.hid (sym_done (by omega) (by omega) (by omega) (by omega) (by omega) (by omega) V1.out HT1.out B.out c1 c2 c3)
                have T3 := Lib.hid t3
                clear c1 c2 c3 t3
                go_wp2
                all_goals go_end0
                all_goals exact ⟨rfl, d3, s3, E.out.1, E.out.2.1, E.out.2.2, T3.out⟩
        · by_cases y1 : m < en
          · by_cases y2 : a < i
            · by_cases y3 : en < b
              · have g1 : ¬ (i : Int) < (m : Int) := by omega
                have g2 : (m : Int) < (en : Int) := by omega
                have g3 : (a : Int) < (i : Int) := by omega
                have g4 : (i : Int) < (mid : Int) := by omega
                have g5 : ¬ (mid : Int) < (en : Int) := by omega
                have g6 : (en : Int) < (b : Int) := by omega
                obtain ⟨d1, s1, v1, t1⟩ : ∃ d1 : Array Int, d1.size = d.size ∧ vw d1 = rot (vw d) i m en ∧ SW (eN nn) w0 blk off d1 wr := ⟨d, rfl, (rot_none _ (by omega) (by omega) (by omega)).symm, HS.out⟩
                have V1 := Lib.hid v1
                have T1 := Lib.hid t1
                clear v1 t1
                have HT1 : Hid (Tn wt (vw d1) a mid b i en) := by rw [Hid, V1.out]; exact HT.out
                have q2 := IH.out cap a i mid d1 wr (by omega) (by omega) (by omega) (by omega) (by omega) T1.out HT1.out.s1 HT1.out.s2 HT1.out.c1
                rw [s1] at q2
                have Q2 := Lib.hid q2
                clear q2
                go_wp2_with fail
                refine Q2.out.mono ?_
                rintro e w3 ⟨rfl, d2, s2, b1, b2, b3, t2⟩
                have B := Lib.hid (show So wt (vw d2) a mid ∧ Sm (vw d1) (vw d2) a mid ∧ Of (vw d1) (vw d2) a mid from ⟨b1, b2, b3⟩)
                have T2 := Lib.hid t2
                clear b1 b2 b3 t2
                have C3 : Hid (So wt (vw d2) mid en ∧ So wt (vw d2) en b ∧ Cr (vw d2) mid en b) := ⟨HT1.out.s3.of fun k q _ => B.out.2.2 k (.inr q), HT1.out.s4.of fun k q _ => B.out.2.2 k (.inr (by omega)), fun x y q1 q2 q3 q4 => by rw [B.out.2.2 x (.inr q1), B.out.2.2 y (.inr (by omega))]; exact HT1.out.c2 x y q1 q2 q3 q4⟩
                obtain ⟨d3, s3, c1, c2, c3, t3⟩ : ∃ d3 : Array Int, d3.size = d.size ∧ So wt (vw d3) mid b ∧ Sm (vw d2) (vw d3) mid b ∧ Of (vw d2) (vw d3) mid b ∧ SW (eN nn) w0 blk off d3 w3 := ⟨d2, s2, by have q := C3.out.2.1; rwa [show en = mid by omega] at q, Sm.refl _ _ _, Of.refl _ _ _, T2.out⟩
                have E := Lib.hid (sym_done (by omega) (by omega) (by omega) (by omega) (by omega) (by omega) V1.out HT1.out B.out c1 c2 c3)
                have T3 := Lib.hid t3
                clear c1 c2 c3 t3
                go_wp2
                all_goals go_end0
                all_goals exact ⟨rfl, d3, s3, E.out.1, E.out.2.1, E.out.2.2, T3.out⟩
              · have g1 : ¬ (i : Int) < (m : Int) := by omega
                have g2 : (m : Int) < (en : Int) := by omega
                have g3 : (a : Int) < (i : Int) := by omega
                have g4 : (i : Int) < (mid : Int) := by omega
                have g5 : ¬ (mid : Int) < (en : Int) := by omega
                have g6 : ¬ (en : Int) < (b : Int) := by omega
                obtain ⟨d1, s1, v1, t1⟩ : ∃ d1 : Array Int, d1.size = d.size ∧ vw d1 = rot (vw d) i m en ∧ SW (eN nn) w0 blk off d1 wr := ⟨d, rfl, (rot_none _ (by omega) (by omega) (by omega)).symm, HS.out⟩
                have V1 := Lib.hid v1
                have T1 := Lib.hid t1
                clear v1 t1
                have HT1 : Hid (Tn wt (vw d1) a mid b i en) := by rw [Hid, V1.out]; exact HT.out
                have q2 := IH.out cap a i mid d1 wr (by omega) (by omega) (by omega) (by omega) (by omega) T1.out HT1.out.s1 HT1.out.s2 HT1.out.c1
                rw [s1] at q2
                have Q2 := Lib.hid q2
                clear q2
                go_wp2_with fail
                refine Q2.out.mono ?_
                rintro e w3 ⟨rfl, d2, s2, b1, b2, b3, t2⟩
                have B := Lib.hid (show So wt (vw d2) a mid ∧ Sm (vw d1) (vw d2) a mid ∧ Of (vw d1) (vw d2) a mid from ⟨b1, b2, b3⟩)
                have T2 := Lib.hid t2
                clear b1 b2 b3 t2
                have C3 : Hid (So wt (vw d2) mid en ∧ So wt (vw d2) en b ∧ Cr (vw d2) mid en b) := ⟨HT1.out.s3.of fun k q _ => B.out.2.2 k (.inr q), HT1.out.s4.of fun k q _ => B.out.2.2 k (.inr (by omega)), fun x y q1 q2 q3 q4 => by rw [B.out.2.2 x (.inr q1), B.out.2.2 y (.inr (by omega))]; exact HT1.out.c2 x y q1 q2 q3 q4⟩
                obtain ⟨d3, s3, c1, c2, c3, t3⟩ : ∃ d3 : Array Int, d3.size = d.size ∧ So wt (vw d3) mid b ∧ Sm (vw d2) (vw d3) mid b ∧ Of (vw d2) (vw d3) mid b ∧ SW (eN nn) w0 blk off d3 w3 := ⟨d2, s2, by have q := C3.out.2.1; rwa [show en = mid by omega] at q, Sm.refl _ _ _, Of.refl _ _ _, T2.out⟩
                have E := Lib.hid (sym_done (by omega) (by omega) (by omega) (by omega) (by omega) (by omega) V1.out HT1.out B.out c1 c2 c3)
                have T3 := Lib.hid t3
                clear c1 c2 c3 t3
                go_wp2
                all_goals go_end0
                all_goals exact ⟨rfl, d3, s3, E.out.1, E.out.2.1, E.out.2.2, T3.out⟩
            · by_cases y3 : en < b
              · have g1 : ¬ (i : Int) < (m : Int) := by omega
                have g2 : (m : Int) < (en : Int) := by omega
                have g3 : ¬ (a : Int) < (i : Int) := by omega
                have g4 : (i : Int) < (mid : Int) := by omega
                have g5 : ¬ (mid : Int) < (en : Int) := by omega
                have g6 : (en : Int) < (b : Int) := by omega
                obtain ⟨d1, s1, v1, t1⟩ : ∃ d1 : Array Int, d1.size = d.size ∧ vw d1 = rot (vw d) i m en ∧ SW (eN nn) w0 blk off d1 wr := ⟨d, rfl, (rot_none _ (by omega) (by omega) (by omega)).symm, HS.out⟩
                have V1 := Lib.hid v1
                have T1 := Lib.hid t1
                clear v1 t1
                have HT1 : Hid (Tn wt (vw d1) a mid b i en) := by rw [Hid, V1.out]; exact HT.out
                obtain ⟨d2, s2, b1, b2, b3, t2⟩ : ∃ d2 : Array Int, d2.size = d.size ∧ So wt (vw d2) a mid ∧ Sm (vw d1) (vw d2) a mid ∧ Of (vw d1) (vw d2) a mid ∧ SW (eN nn) w0 blk off d2 wr := ⟨d1, s1, by have q := HT1.out.s2; rwa [show i = a by omega] at q, Sm.refl _ _ _, Of.refl _ _ _, T1.out⟩
                have B := Lib.hid (show So wt (vw d2) a mid ∧ Sm (vw d1) (vw d2) a mid ∧ Of (vw d1) (vw d2) a mid from ⟨b1, b2, b3⟩)
                have T2 := Lib.hid t2
                clear b1 b2 b3 t2
                have C3 : Hid (So wt (vw d2) mid en ∧ So wt (vw d2) en b ∧ Cr (vw d2) mid en b) := ⟨HT1.out.s3.of fun k q _ => B.out.2.2 k (.inr q), HT1.out.s4.of fun k q _ => B.out.2.2 k (.inr (by omega)), fun x y q1 q2 q3 q4 => by rw [B.out.2.2 x (.inr q1), B.out.2.2 y (.inr (by omega))]; exact HT1.out.c2 x y q1 q2 q3 q4⟩
                obtain ⟨d3, s3, c1, c2, c3, t3⟩ : ∃ d3 : Array Int, d3.size = d.size ∧ So wt (vw d3) mid b ∧ Sm (vw d2) (vw d3) mid b ∧ Of (vw d2) (vw d3) mid b ∧ SW (eN nn) w0 blk off d3 wr := ⟨d2, s2, by have q := C3.out.2.1; rwa [show en = mid by omega] at q, Sm.refl _ _ _, Of.refl _ _ _, T2.out⟩
                have E := Lib.hid (sym_done (by omega) (by omega) (by omega) (by omega) (by omega) (by omega) V1.out HT1.out B.out c1 c2 c3)
                have T3 := Lib.hid t3
                clear c1 c2 c3 t3
                go_wp2
                all_goals go_end0
                all_goals exact ⟨rfl, d3, s3, E.out.1, E.out.2.1, E.out.2.2, T3.out⟩
              · have g1 : ¬ (i : Int) < (m : Int) := by omega
                have g2 : (m : Int) < (en : Int) := by omega
                have g3 : ¬ (a : Int) < (i : Int) := by omega
                have g4 : (i : Int) < (mid : Int) := by omega
                have g5 : ¬ (mid : Int) < (en : Int) := by omega
                have g6 : ¬ (en : Int) < (b : Int) := by omega
                obtain ⟨d1, s1, v1, t1⟩ : ∃ d1 : Array Int, d1.size = d.size ∧ vw d1 = rot (vw d) i m en ∧ SW (eN nn) w0 blk off d1 wr := ⟨d, rfl, (rot_none _ (by omega) (by omega) (by omega)).symm, HS.out⟩
                have V1 := Lib.hid v1
                have T1 := Lib.hid t1
                clear v1 t1
                have HT1 : Hid (Tn wt (vw d1) a mid b i en) := by rw [Hid, V1.out]; exact HT.out
                obtain ⟨d2, s2, b1, b2, b3, t2⟩ : ∃ d2 : Array Int, d2.size = d.size ∧ So wt (vw d2) a mid ∧ Sm (vw d1) (vw d2) a mid ∧ Of (vw d1) (vw d2) a mid ∧ SW (eN nn) w0 blk off d2 wr := ⟨d1, s1, by have q := HT1.out.s2; rwa [show i = a by omega] at q, Sm.refl _ _ _, Of.refl _ _ _, T1.out⟩
                have B := Lib.hid (show So wt (vw d2) a mid ∧ Sm (vw d1) (vw d2) a mid ∧ Of (vw d1) (vw d2) a mid from ⟨b1, b2, b3⟩)
                have T2 := Lib.hid t2
                clear b1 b2 b3 t2
                have C3 : Hid (So wt (vw d2) mid en ∧ So wt (vw d2) en b ∧ Cr (vw d2) mid en b) := ⟨HT1.out.s3.of fun k q _ => B.out.2.2 k (.inr q), HT1.out.s4.of fun k q _ => B.out.2.2 k (.inr (by omega)), fun x y q1 q2 q3 q4 => by rw [B.out.2.2 x (.inr q1), B.out.2.2 y (.inr (by omega))]; exact HT1.out.c2 x y q1 q2 q3 q4⟩
                obtain ⟨d3, s3, c1, c2, c3, t3⟩ : ∃ d3 : Array Int, d3.size = d.size ∧ So wt (vw d3) mid b ∧ Sm (vw d2) (vw d3) mid b ∧ Of (vw d2) (vw d3) mid b ∧ SW (eN nn) w0 blk off d3 wr := ⟨d2, s2, by have q := C3.out.2.1; rwa [show en = mid by omega] at q, Sm.refl _ _ _, Of.refl _ _ _, T2.out⟩
                have E := Lib.hid (sym_done (by omega) (by omega) (by omega) (by omega) (by omega) (by omega) V1.out HT1.out B.out c1 c2 c3)
                have T3 := Lib.hid t3
                clear c1 c2 c3 t3
                go_wp2
                all_goals go_end0
                all_goals exact ⟨rfl, d3, s3, E.out.1, E.out.2.1, E.out.2.2, T3.out⟩
          · by_cases y2 : a < i
            · by_cases y3 : en < b
              · have g1 : ¬ (i : Int) < (m : Int) := by omega
                have g2 : ¬ (m : Int) < (en : Int) := by omega
                have g3 : (a : Int) < (i : Int) := by omega
                have g4 : ¬ (i : Int) < (mid : Int) := by omega
                have g5 : ¬ (mid : Int) < (en : Int) := by omega
                have g6 : (en : Int) < (b : Int) := by omega
                obtain ⟨d1, s1, v1, t1⟩ : ∃ d1 : Array Int, d1.size = d.size ∧ vw d1 = rot (vw d) i m en ∧ SW (eN nn) w0 blk off d1 wr := ⟨d, rfl, (rot_none _ (by omega) (by omega) (by omega)).symm, HS.out⟩
                have V1 := Lib.hid v1
                have T1 := Lib.hid t1
                clear v1 t1
                have HT1 : Hid (Tn wt (vw d1) a mid b i en) := by rw [Hid, V1.out]; exact HT.out
                obtain ⟨d2, s2, b1, b2, b3, t2⟩ : ∃ d2 : Array Int, d2.size = d.size ∧ So wt (vw d2) a mid ∧ Sm (vw d1) (vw d2) a mid ∧ Of (vw d1) (vw d2) a mid ∧ SW (eN nn) w0 blk off d2 wr := ⟨d1, s1, by have q := HT1.out.s1; rwa [show i = mid by omega] at q, Sm.refl _ _ _, Of.refl _ _ _, T1.out⟩
                have B := Lib.hid (show So wt (vw d2) a mid ∧ Sm (vw d1) (vw d2) a mid ∧ Of (vw d1) (vw d2) a mid from ⟨b1, b2, b3⟩)
                have T2 := Lib.hid t2
                clear b1 b2 b3 t2
                have C3 : Hid (So wt (vw d2) mid en ∧ So wt (vw d2) en b ∧ Cr (vw d2) mid en b) := ⟨HT1.out.s3.of fun k q _ => B.out.2.2 k (.inr q), HT1.out.s4.of fun k q _ => B.out.2.2 k (.inr (by omega)), fun x y q1 q2 q3 q4 => by rw [B.out.2.2 x (.inr q1), B.out.2.2 y (.inr (by omega))]; exact HT1.out.c2 x y q1 q2 q3 q4⟩
                obtain ⟨d3, s3, c1, c2, c3, t3⟩ : ∃ d3 : Array Int, d3.size = d.size ∧ So wt (vw d3) mid b ∧ Sm (vw d2) (vw d3) mid b ∧ Of (vw d2) (vw d3) mid b ∧ SW (eN nn) w0 blk off d3 wr := ⟨d2, s2, by have q := C3.out.2.1; rwa [show en = mid by omega] at q, Sm.refl _ _ _, Of.refl _ _ _, T2.out⟩
                have E := Lib.hid (sym_done (by omega) (by omega) (by omega) (by omega) (by omega) (by omega) V1.out HT1.out B.out c1 c2 c3)
                have T3 := Lib.hid t3
                clear c1 c2 c3 t3
                go_wp2
                all_goals go_end0
                all_goals exact ⟨rfl, d3, s3, E.out.1, E.out.2.1, E.out.2.2, T3.out⟩
              · have g1 : ¬ (i : Int) < (m : Int) := by omega
                have g2 : ¬ (m : Int) < (en : Int) := by omega
                have g3 : (a : Int) < (i : Int) := by omega
                have g4 : ¬ (i : Int) < (mid : Int) := by omega
                have g5 : ¬ (mid : Int) < (en : Int) := by omega
                have g6 : ¬ (en : Int) < (b : Int) := by omega
                obtain ⟨d1, s1, v1, t1⟩ : ∃ d1 : Array Int, d1.size = d.size ∧ vw d1 = rot (vw d) i m en ∧ SW (eN nn) w0 blk off d1 wr := ⟨d, rfl, (rot_none _ (by omega) (by omega) (by omega)).symm, HS.out⟩
                have V1 := Lib.hid v1
                have T1 := Lib.hid t1
                clear v1 t1
                have HT1 : Hid (Tn wt (vw d1) a mid b i en) := by rw [Hid, V1.out]; exact HT.out
                obtain ⟨d2, s2, b1, b2, b3, t2⟩ : ∃ d2 : Array Int, d2.size = d.size ∧ So wt (vw d2) a mid ∧ Sm (vw d1) (vw d2) a mid ∧ Of (vw d1) (vw d2) a mid ∧ SW (eN nn) w0 blk off d2 wr := ⟨d1, s1, by have q := HT1.out.s1; rwa [show i = mid by omega] at q, Sm.refl _ _ _, Of.refl _ _ _, T1.out⟩
                have B := Lib.hid (show So wt (vw d2) a mid ∧ Sm (vw d1) (vw d2) a mid ∧ Of (vw d1) (vw d2) a mid from ⟨b1, b2, b3⟩)
                have T2 := Lib.hid t2
                clear b1 b2 b3 t2
                have C3 : Hid (So wt (vw d2) mid en ∧ So wt (vw d2) en b ∧ Cr (vw d2) mid en b) := ⟨HT1.out.s3.of fun k q _ => B.out.2.2 k (.inr q), HT1.out.s4.of fun k q _ => B.out.2.2 k (.inr (by omega)), fun x y q1 q2 q3 q4 => by rw [B.out.2.2 x (.inr q1), B.out.2.2 y (.inr (by omega))]; exact HT1.out.c2 x y q1 q2 q3 q4⟩
                obtain ⟨d3, s3, c1, c2, c3, t3⟩ : ∃ d3 : Array Int, d3.size = d.size ∧ So wt (vw d3) mid b ∧ Sm (vw d2) (vw d3) mid b ∧ Of (vw d2) (vw d3) mid b ∧ SW (eN nn) w0 blk off d3 wr := ⟨d2, s2, by have q := C3.out.2.1; rwa [show en = mid by omega] at q, Sm.refl _ _ _, Of.refl _ _ _, T2.out⟩
                have E := Lib.hid (sym_done (by omega) (by omega) (by omega) (by omega) (by omega) (by omega) V1.out HT1.out B.out c1 c2 c3)
                have T3 := Lib.hid t3
                clear c1 c2 c3 t3
                go_wp2
                all_goals go_end0
                all_goals exact ⟨rfl, d3, s3, E.out.1, E.out.2.1, E.out.2.2, T3.out⟩
            · by_cases y3 : en < b
              · have g1 : ¬ (i : Int) < (m : Int) := by omega
                have g2 : ¬ (m : Int) < (en : Int) := by omega
                have g3 : ¬ (a : Int) < (i : Int) := by omega
                have g4 : ¬ (i : Int) < (mid : Int) := by omega
                have g5 : ¬ (mid : Int) < (en : Int) := by omega
                have g6 : (en : Int) < (b : Int) := by omega
                obtain ⟨d1, s1, v1, t1⟩ : ∃ d1 : Array Int, d1.size = d.size ∧ vw d1 = rot (vw d) i m en ∧ SW (eN nn) w0 blk off d1 wr := ⟨d, rfl, (rot_none _ (by omega) (by omega) (by omega)).symm, HS.out⟩
                have V1 := Lib.hid v1
                have T1 := Lib.hid t1
                clear v1 t1
                have HT1 : Hid (Tn wt (vw d1) a mid b i en) := by rw [Hid, V1.out]; exact HT.out
                obtain ⟨d2, s2, b1, b2, b3, t2⟩ : ∃ d2 : Array Int, d2.size = d.size ∧ So wt (vw d2) a mid ∧ Sm (vw d1) (vw d2) a mid ∧ Of (vw d1) (vw d2) a mid ∧ SW (eN nn) w0 blk off d2 wr := ⟨d1, s1, by have q := HT1.out.s2; rwa [show i = a by omega] at q, Sm.refl _ _ _, Of.refl _ _ _, T1.out⟩
                have B := Lib.hid (show So wt (vw d2) a mid ∧ Sm (vw d1) (vw d2) a mid ∧ Of (vw d1) (vw d2) a mid from ⟨b1, b2, b3⟩)
                have T2 := Lib.hid t2
                clear b1 b2 b3 t2
                have C3 : Hid (So wt (vw d2) mid en ∧ So wt (vw d2) en b ∧ Cr (vw d2) mid en b) := ⟨HT1.out.s3.of fun k q _ => B.out.2.2 k (.inr q), HT1.out.s4.of fun k q _ => B.out.2.2 k (.inr (by omega)), fun x y q1 q2 q3 q4 => by rw [B.out.2.2 x (.inr q1), B.out.2.2 y (.inr (by omega))]; exact HT1.out.c2 x y q1 q2 q3 q4⟩
                obtain ⟨d3, s3, c1, c2, c3, t3⟩ : ∃ d3 : Array Int, d3.size = d.size ∧ So wt (vw d3) mid b ∧ Sm (vw d2) (vw d3) mid b ∧ Of (vw d2) (vw d3) mid b ∧ SW (eN nn) w0 blk off d3 wr := ⟨d2, s2, by have q := C3.out.2.1; rwa [show en = mid by omega] at q, Sm.refl _ _ _, Of.refl _ _ _, T2.out⟩
                have E := Lib.hid (sym_done (by omega) (by omega) (by omega) (by omega) (by omega) (by omega) V1.out HT1.out B.out c1 c2 c3)
                have T3 := Lib.hid t3
                clear c1 c2 c3 t3
                go_wp2
                all_goals go_end0
                all_goals exact ⟨rfl, d3, s3, E.out.1, E.out.2.1, E.out.2.2, T3.out⟩
              · have g1 : ¬ (i : Int) < (m : Int) := by omega
                have g2 : ¬ (m : Int) < (en : Int) := by omega
                have g3 : ¬ (a : Int) < (i : Int) := by omega
                have g4 : ¬ (i : Int) < (mid : Int) := by omega
                have g5 : ¬ (mid : Int) < (en : Int) := by omega
                have g6 : ¬ (en : Int) < (b : Int) := by omega
                obtain ⟨d1, s1, v1, t1⟩ : ∃ d1 : Array Int, d1.size = d.size ∧ vw d1 = rot (vw d) i m en ∧ SW (eN nn) w0 blk off d1 wr := ⟨d, rfl, (rot_none _ (by omega) (by omega) (by omega)).symm, HS.out⟩
                have V1 := Lib.hid v1
                have T1 := Lib.hid t1
                clear v1 t1
                have HT1 : Hid (Tn wt (vw d1) a mid b i en) := by rw [Hid, V1.out]; exact HT.out
                obtain ⟨d2, s2, b1, b2, b3, t2⟩ : ∃ d2 : Array Int, d2.size = d.size ∧ So wt (vw d2) a mid ∧ Sm (vw d1) (vw d2) a mid ∧ Of (vw d1) (vw d2) a mid ∧ SW (eN nn) w0 blk off d2 wr := ⟨d1, s1, by have q := HT1.out.s2; rwa [show i = a by omega] at q, Sm.refl _ _ _, Of.refl _ _ _, T1.out⟩
                have B := Lib.hid (show So wt (vw d2) a mid ∧ Sm (vw d1) (vw d2) a mid ∧ Of (vw d1) (vw d2) a mid from ⟨b1, b2, b3⟩)
                have T2 := Lib.hid t2
                clear b1 b2 b3 t2
                have C3 : Hid (So wt (vw d2) mid en ∧ So wt (vw d2) en b ∧ Cr (vw d2) mid en b) := ⟨HT1.out.s3.of fun k q _ => B.out.2.2 k (.inr q), HT1.out.s4.of fun k q _ => B.out.2.2 k (.inr (by omega)), fun x y q1 q2 q3 q4 => by rw [B.out.2.2 x (.inr q1), B.out.2.2 y (.inr (by omega))]; exact HT1.out.c2 x y q1 q2 q3 q4⟩
                obtain ⟨d3, s3, c1, c2, c3, t3⟩ : ∃ d3 : Array Int, d3.size = d.size ∧ So wt (vw d3) mid b ∧ Sm (vw d2) (vw d3) mid b ∧ Of (vw d2) (vw d3) mid b ∧ SW (eN nn) w0 blk off d3 wr := ⟨d2, s2, by have q := C3.out.2.1; rwa [show en = mid by omega] at q, Sm.refl _ _ _, Of.refl _ _ _, T2.out⟩
                have E := Lib.hid (sym_done (by omega) (by omega) (by omega) (by omega) (by omega) (by omega) V1.out HT1.out B.out c1 c2 c3)
                have T3 := Lib.hid t3
                clear c1 c2 c3 t3
                go_wp2
                all_goals go_end0
                all_goals exact ⟨rfl, d3, s3, E.out.1, E.out.2.1, E.out.2.2, T3.out⟩
  · have cz : ¬ (mid : Int) < (m : Int) := by omega
    obtain ⟨lo, hlo⟩ : ∃ lo, lo = a := ⟨_, rfl⟩
    obtain ⟨hi, hhi⟩ : ∃ hi, hi = m := ⟨_, rfl⟩
    have e1 : lo = a ∨ lo + b = mid + m := by omega
    have e2 : hi = m ∨ hi = mid := by omega
    have f1 : a ≤ lo ∧ lo ≤ hi ∧ hi ≤ m ∧ hi ≤ mid ∧ mid + m ≤ b + lo := by omega
    go_wp2
    go_loopw [20, 21, 23] (fun vi vj _ wr => ∃ (i j : Nat), vi = .int .i64 i ∧ vj = .int .i64 j ∧ lo ≤ i ∧ i ≤ j ∧ j ≤ hi ∧ Hid (∀ c, lo ≤ c → c < i → lx wt (vw d c) (vw d (mid + m - 1 - c))) ∧ Hid (∀ c, j ≤ c → c < hi → lx wt (vw d (mid + m - 1 - c)) (vw d c)) ∧ Hid (SW (eN nn) w0 blk off d wr)) (fun vi vj _ _ => (intOf vj).toNat - (intOf vi).toNat)
    case atStart => exact ⟨lo, hi, by first | rfl | (rw [hlo]), by first | rfl | (rw [hhi]), by omega, by omega, by omega, fun k _ _ => by omega, fun k _ _ => by omega, S0.out⟩
    case round =>
      clear S0
      obtain ⟨i, j, rfl, rfl, h1, h2, h3, HL, HR, HS⟩ := hrel
      by_cases c : i < j
      · have hlt : (i : Int) < (j : Int) := by omega
        have rs : IntKind.i64.wrap ((i : Int) + (j : Int)) = ((i + j : Nat) : Int) := (IntWalk.i64_in _ (by omega)).trans (by omega)
        obtain ⟨h, hh⟩ : ∃ h : Nat, (i + j) / 2 = h := ⟨_, rfl⟩
        have hz2 : ((i : Int) + (j : Int)) / 2 = (h : Int) := by omega
        obtain ⟨e, he⟩ : ∃ e, e + h = p0 := ⟨p0 - h, by omega⟩
        have hpe : mid + m - 1 - h = e := by omega
        have re : IntKind.i64.wrap ((p0 : Int) - (h : Int)) = (e : Int) := (IntWalk.i64_in _ (by omega)).trans (by omega)
        go_wp2_with fail
        have bh : (h : Int) < (d.size : Int) := by omega
        have be : (e : Int) < (d.size : Int) := by omega
        have l1 : ∀ n os, (grow (wr.drewN n) os).cell? ⟨blk, off + h, none⟩ = some (.int .i64 (cl nn d[h]!)) := HS.out.cl R (by omega) h (by omega)
        have l2 : ∀ n os, (grow (wr.drewN n) os).cell? ⟨blk, off + e, none⟩ = some (.int .i64 (cl nn d[e]!)) := HS.out.cl R (by omega) e (by omega)
        have lc := HS.out.cmp HC.out (by omega) d[e]! d[h]!
        have nx : d[h]! = vw d h := rfl
        have ny : d[e]! = vw d e := rfl
        have hcr := hc h e (by omega) (by omega) (by omega) (by omega)
        by_cases q : wt (vw d e) < wt (vw d h)
        · have hhi2 : ∀ k, h ≤ k → k < hi → lx wt (vw d (mid + m - 1 - k)) (vw d k) := fun k q1 q2 => by
            have q3 : lx wt (vw d e) (vw d h) := .inl q
            by_cases e' : k = h
            · rw [e', hpe]; exact q3
            · exact lx_trans (hy (mid + m - 1 - k) e (by omega) (by omega) (by omega)) (lx_trans q3 (hx h k (by omega) (by omega) (by omega)))
          have HR2 := Lib.hid hhi2
          have hq : cfW wt d[e]! d[h]! < 0 := by unfold cfW; rw [nx, ny]; omega
          have hd : decide (cfW wt d[e]! d[h]! < 0) = true := decide_eq_true hq
          clear hhi2 q hcr nx ny HR
          generalize d[h]! = x at l1 lc hq hd
          generalize d[e]! = y at l2 lc hq hd
          go_quiet_grown (first | (go_at_call 35; refine Calls.grown_of (lc _ _)))
          have S2 := Lib.hid (HS.out.grown nq osq)
          clear l1 l2 lc hq hd HS
          generalize grow (wr.drewN nq) osq = w2 at S2 ⊢
          go_wp2
          go_roundw
          case rel => exact ⟨i, h, rfl, rfl, h1, by omega, by omega, HL.out, HR2.out, S2.out⟩
          case measure => simp [intOf]; omega
        · have hlo2 : ∀ k, lo ≤ k → k < h + 1 → lx wt (vw d k) (vw d (mid + m - 1 - k)) := fun k q1 q2 => by
            have q3 : lx wt (vw d h) (vw d e) := by unfold lx; omega
            by_cases e' : k = h
            · rw [e', hpe]; exact q3
            · exact lx_trans (hx k h (by omega) (by omega) (by omega)) (lx_trans q3 (hy e (mid + m - 1 - k) (by omega) (by omega) (by omega)))
          have HL2 := Lib.hid hlo2
          have hq : ¬ cfW wt d[e]! d[h]! < 0 := by unfold cfW; rw [nx, ny]; omega
          have hd : decide (cfW wt d[e]! d[h]! < 0) = false := decide_eq_false hq
          clear hlo2 q hcr nx ny HL
          generalize d[h]! = x at l1 lc hq hd
          generalize d[e]! = y at l2 lc hq hd
          go_quiet_grown (first | (go_at_call 35; refine Calls.grown_of (lc _ _)))
          have S2 := Lib.hid (HS.out.grown nq osq)
          clear l1 l2 lc hq hd HS
          generalize grow (wr.drewN nq) osq = w2 at S2 ⊢
          go_wp2
          go_roundw
          case rel => exact ⟨h + 1, j, by go_num, rfl, by omega, by omega, h3, HL2.out, HR.out, S2.out⟩
          case measure => simp [intOf]; omega
      · obtain rfl : i = j := by omega
        have HCut := Lib.hid (cut_of (by omega) (by omega) (by omega) (by omega) f1.1 h1 h3 f1.2.2.1 f1.2.2.2.1 f1.2.2.2.2 e1 e2 HL.out HR.out)
        clear HL HR
        obtain ⟨en, hen⟩ : ∃ en, en + i = n0 := ⟨n0 - i, by omega⟩
        have ren : IntKind.i64.wrap ((n0 : Int) - (i : Int)) = (en : Int) := (IntWalk.i64_in _ (by omega)).trans (by omega)
        have hen2 : mid + m - i = en := by omega
        rw [hen2] at HCut
        have HT := Lib.hid (HCut.out.turn hx hy hc)
        have w1 := HCut.out.sa; have w2 := HCut.out.sm; have w3 := HCut.out.me; have w4 := HCut.out.eb
        clear HCut
        by_cases y0 : i < m
        · by_cases y1 : m < en
          · by_cases y2 : a < i
            · by_cases y3 : en < b
              · have g1 : (i : Int) < (m : Int) := by omega
                have g2 : (m : Int) < (en : Int) := by omega
                have g3 : (a : Int) < (i : Int) := by omega
                have g4 : (i : Int) < (mid : Int) := by omega
                have g5 : (mid : Int) < (en : Int) := by omega
                have g6 : (en : Int) < (b : Int) := by omega
                go_wp2_with fail
                refine (rot_any w0 d0 blk off cap i m en d wr _ R hs HS.out (by omega) (by omega) (by omega) hsz).mono ?_
                rintro e w2 ⟨rfl, d1, s1, v1, t1⟩
                have V1 := Lib.hid v1
                have T1 := Lib.hid t1
                clear v1 t1
                have HT1 : Hid (Tn wt (vw d1) a mid b i en) := by rw [Hid, V1.out]; exact HT.out
                have q2 := IH.out cap a i mid d1 w2 (by omega) (by omega) (by omega) (by omega) (by omega) T1.out HT1.out.s1 HT1.out.s2 HT1.out.c1
                rw [s1] at q2
                have Q2 := Lib.hid q2
                clear q2
                go_wp2_with fail
                refine Q2.out.mono ?_
                rintro e w3 ⟨rfl, d2, s2, b1, b2, b3, t2⟩
                have B := Lib.hid (show So wt (vw d2) a mid ∧ Sm (vw d1) (vw d2) a mid ∧ Of (vw d1) (vw d2) a mid from ⟨b1, b2, b3⟩)
                have T2 := Lib.hid t2
                clear b1 b2 b3 t2
                have C3 : Hid (So wt (vw d2) mid en ∧ So wt (vw d2) en b ∧ Cr (vw d2) mid en b) := ⟨HT1.out.s3.of fun k q _ => B.out.2.2 k (.inr q), HT1.out.s4.of fun k q _ => B.out.2.2 k (.inr (by omega)), fun x y q1 q2 q3 q4 => by rw [B.out.2.2 x (.inr q1), B.out.2.2 y (.inr (by omega))]; exact HT1.out.c2 x y q1 q2 q3 q4⟩
                have q3 := IH.out cap mid en b d2 w3 (by omega) (by omega) (by omega) (by omega) (by omega) T2.out C3.out.1 C3.out.2.1 C3.out.2.2
                rw [s2] at q3
                have Q3 := Lib.hid q3
                clear q3
                go_wp2_with fail
                refine Q3.out.mono ?_
                rintro e w4 ⟨rfl, d3, s3, c1, c2, c3, t3⟩
                have E := Lib.hid (sym_done (by omega) (by omega) (by omega) (by omega) (by omega) (by omega) V1.out HT1.out B.out c1 c2 c3)
                have T3 := Lib.hid t3
                clear c1 c2 c3 t3
                go_wp2
                all_goals go_end0
                all_goals exact ⟨rfl, d3, s3, E.out.1, E.out.2.1, E.out.2.2, T3.out⟩
              · have g1 : (i : Int) < (m : Int) := by omega
                have g2 : (m : Int) < (en : Int) := by omega
                have g3 : (a : Int) < (i : Int) := by omega
                have g4 : (i : Int) < (mid : Int) := by omega
                have g5 : (mid : Int) < (en : Int) := by omega
                have g6 : ¬ (en : Int) < (b : Int) := by omega
                go_wp2_with fail
                refine (rot_any w0 d0 blk off cap i m en d wr _ R hs HS.out (by omega) (by omega) (by omega) hsz).mono ?_
                rintro e w2 ⟨rfl, d1, s1, v1, t1⟩
                have V1 := Lib.hid v1
                have T1 := Lib.hid t1
                clear v1 t1
                have HT1 : Hid (Tn wt (vw d1) a mid b i en) := by rw [Hid, V1.out]; exact HT.out
                have q2 := IH.out cap a i mid d1 w2 (by omega) (by omega) (by omega) (by omega) (by omega) T1.out HT1.out.s1 HT1.out.s2 HT1.out.c1
                rw [s1] at q2
                have Q2 := Lib.hid q2
                clear q2
                go_wp2_with fail
                refine Q2.out.mono ?_
                rintro e w3 ⟨rfl, d2, s2, b1, b2, b3, t2⟩
                have B := Lib.hid (show So wt (vw d2) a mid ∧ Sm (vw d1) (vw d2) a mid ∧ Of (vw d1) (vw d2) a mid from ⟨b1, b2, b3⟩)
                have T2 := Lib.hid t2
                clear b1 b2 b3 t2
                have C3 : Hid (So wt (vw d2) mid en ∧ So wt (vw d2) en b ∧ Cr (vw d2) mid en b) := ⟨HT1.out.s3.of fun k q _ => B.out.2.2 k (.inr q), HT1.out.s4.of fun k q _ => B.out.2.2 k (.inr (by omega)), fun x y q1 q2 q3 q4 => by rw [B.out.2.2 x (.inr q1), B.out.2.2 y (.inr (by omega))]; exact HT1.out.c2 x y q1 q2 q3 q4⟩
                obtain ⟨d3, s3, c1, c2, c3, t3⟩ : ∃ d3 : Array Int, d3.size = d.size ∧ So wt (vw d3) mid b ∧ Sm (vw d2) (vw d3) mid b ∧ Of (vw d2) (vw d3) mid b ∧ SW (eN nn) w0 blk off d3 w3 := ⟨d2, s2, by have q := C3.out.1; rwa [show en = b by omega] at q, Sm.refl _ _ _, Of.refl _ _ _, T2.out⟩
                have E := Lib.hid (sym_done (by omega) (by omega) (by omega) (by omega) (by omega) (by omega) V1.out HT1.out B.out c1 c2 c3)
                have T3 := Lib.hid t3
                clear c1 c2 c3 t3
                go_wp2
                all_goals go_end0
                all_goals exact ⟨rfl, d3, s3, E.out.1, E.out.2.1, E.out.2.2, T3.out⟩
            · by_cases y3 : en < b
              · have g1 : (i : Int) < (m : Int) := by omega
                have g2 : (m : Int) < (en : Int) := by omega
                have g3 : ¬ (a : Int) < (i : Int) := by omega
                have g4 : (i : Int) < (mid : Int) := by omega
                have g5 : (mid : Int) < (en : Int) := by omega
                have g6 : (en : Int) < (b : Int) := by omega
                go_wp2_with fail
                refine (rot_any w0 d0 blk off cap i m en d wr _ R hs HS.out (by omega) (by omega) (by omega) hsz).mono ?_
                rintro e w2 ⟨rfl, d1, s1, v1, t1⟩
                have V1 := Lib.hid v1
                have T1 := Lib.hid t1
                clear v1 t1
                have HT1 : Hid (Tn wt (vw d1) a mid b i en) := by rw [Hid, V1.out]; exact HT.out
                obtain ⟨d2, s2, b1, b2, b3, t2⟩ : ∃ d2 : Array Int, d2.size = d.size ∧ So wt (vw d2) a mid ∧ Sm (vw d1) (vw d2) a mid ∧ Of (vw d1) (vw d2) a mid ∧ SW (eN nn) w0 blk off d2 w2 := ⟨d1, s1, by have q := HT1.out.s2; rwa [show i = a by omega] at q, Sm.refl _ _ _, Of.refl _ _ _, T1.out⟩
                have B := Lib.hid (show So wt (vw d2) a mid ∧ Sm (vw d1) (vw d2) a mid ∧ Of (vw d1) (vw d2) a mid from ⟨b1, b2, b3⟩)
                have T2 := Lib.hid t2
                clear b1 b2 b3 t2
                have C3 : Hid (So wt (vw d2) mid en ∧ So wt (vw d2) en b ∧ Cr (vw d2) mid en b) := ⟨HT1.out.s3.of fun k q _ => B.out.2.2 k (.inr q), HT1.out.s4.of fun k q _ => B.out.2.2 k (.inr (by omega)), fun x y q1 q2 q3 q4 => by rw [B.out.2.2 x (.inr q1), B.out.2.2 y (.inr (by omega))]; exact HT1.out.c2 x y q1 q2 q3 q4⟩
                have q3 := IH.out cap mid en b d2 w2 (by omega) (by omega) (by omega) (by omega) (by omega) T2.out C3.out.1 C3.out.2.1 C3.out.2.2
                rw [s2] at q3
                have Q3 := Lib.hid q3
                clear q3
                go_wp2_with fail
                refine Q3.out.mono ?_
                rintro e w4 ⟨rfl, d3, s3, c1, c2, c3, t3⟩
                have E := Lib.hid (sym_done (by omega) (by omega) (by omega) (by omega) (by omega) (by omega) V1.out HT1.out B.out c1 c2 c3)
                have T3 := Lib.hid t3
                clear c1 c2 c3 t3
                go_wp2
                all_goals go_end0
                all_goals exact ⟨rfl, d3, s3, E.out.1, E.out.2.1, E.out.2.2, T3.out⟩
              · have g1 : (i : Int) < (m : Int) := by omega
                have g2 : (m : Int) < (en : Int) := by omega
                have g3 : ¬ (a : Int) < (i : Int) := by omega
                have g4 : (i : Int) < (mid : Int) := by omega
                have g5 : (mid : Int) < (en : Int) := by omega
                have g6 : ¬ (en : Int) < (b : Int) := by omega
                go_wp2_with fail
                refine (rot_any w0 d0 blk off cap i m en d wr _ R hs HS.out (by omega) (by omega) (by omega) hsz).mono ?_
                rintro e w2 ⟨rfl, d1, s1, v1, t1⟩
                have V1 := Lib.hid v1
                have T1 := Lib.hid t1
                clear v1 t1
                have HT1 : Hid (Tn wt (vw d1) a mid b i en) := by rw [Hid, V1.out]; exact HT.out
                obtain ⟨d2, s2, b1, b2, b3, t2⟩ : ∃ d2 : Array Int, d2.size = d.size ∧ So wt (vw d2) a mid ∧ Sm (vw d1) (vw d2) a mid ∧ Of (vw d1) (vw d2) a mid ∧ SW (eN nn) w0 blk off d2 w2 := ⟨d1, s1, by have q := HT1.out.s2; rwa [show i = a by omega] at q, Sm.refl _ _ _, Of.refl _ _ _, T1.out⟩
                have B := Lib.hid (show So wt (vw d2) a mid ∧ Sm (vw d1) (vw d2) a mid ∧ Of (vw d1) (vw d2) a mid from ⟨b1, b2, b3⟩)
                have T2 := Lib.hid t2
                clear b1 b2 b3 t2
                have C3 : Hid (So wt (vw d2) mid en ∧ So wt (vw d2) en b ∧ Cr (vw d2) mid en b) := ⟨HT1.out.s3.of fun k q _ => B.out.2.2 k (.inr q), HT1.out.s4.of fun k q _ => B.out.2.2 k (.inr (by omega)), fun x y q1 q2 q3 q4 => by rw [B.out.2.2 x (.inr q1), B.out.2.2 y (.inr (by omega))]; exact HT1.out.c2 x y q1 q2 q3 q4⟩
                obtain ⟨d3, s3, c1, c2, c3, t3⟩ : ∃ d3 : Array Int, d3.size = d.size ∧ So wt (vw d3) mid b ∧ Sm (vw d2) (vw d3) mid b ∧ Of (vw d2) (vw d3) mid b ∧ SW (eN nn) w0 blk off d3 w2 := ⟨d2, s2, by have q := C3.out.1; rwa [show en = b by omega] at q, Sm.refl _ _ _, Of.refl _ _ _, T2.out⟩
                have E := Lib.hid (sym_done (by omega) (by omega) (by omega) (by omega) (by omega) (by omega) V1.out HT1.out B.out c1 c2 c3)
                have T3 := Lib.hid t3
                clear c1 c2 c3 t3
                go_wp2
                all_goals go_end0
                all_goals exact ⟨rfl, d3, s3, E.out.1, E.out.2.1, E.out.2.2, T3.out⟩
          · by_cases y2 : a < i
            · by_cases y3 : en < b
              · have g1 : (i : Int) < (m : Int) := by omega
                have g2 : ¬ (m : Int) < (en : Int) := by omega
                have g3 : (a : Int) < (i : Int) := by omega
                have g4 : ¬ (i : Int) < (mid : Int) := by omega
                have g5 : (mid : Int) < (en : Int) := by omega
                have g6 : (en : Int) < (b : Int) := by omega
                obtain ⟨d1, s1, v1, t1⟩ : ∃ d1 : Array Int, d1.size = d.size ∧ vw d1 = rot (vw d) i m en ∧ SW (eN nn) w0 blk off d1 wr := ⟨d, rfl, (rot_none _ (by omega) (by omega) (by omega)).symm, HS.out⟩
                have V1 := Lib.hid v1
                have T1 := Lib.hid t1
                clear v1 t1
                have HT1 : Hid (Tn wt (vw d1) a mid b i en) := by rw [Hid, V1.out]; exact HT.out
                obtain ⟨d2, s2, b1, b2, b3, t2⟩ : ∃ d2 : Array Int, d2.size = d.size ∧ So wt (vw d2) a mid ∧ Sm (vw d1) (vw d2) a mid ∧ Of (vw d1) (vw d2) a mid ∧ SW (eN nn) w0 blk off d2 wr := ⟨d1, s1, by have q := HT1.out.s1; rwa [show i = mid by omega] at q, Sm.refl _ _ _, Of.refl _ _ _, T1.out⟩
                have B := Lib.hid (show So wt (vw d2) a mid ∧ Sm (vw d1) (vw d2) a mid ∧ Of (vw d1) (vw d2) a mid from ⟨b1, b2, b3⟩)
                have T2 := Lib.hid t2
                clear b1 b2 b3 t2
                have C3 : Hid (So wt (vw d2) mid en ∧ So wt (vw d2) en b ∧ Cr (vw d2) mid en b) := ⟨HT1.out.s3.of fun k q _ => B.out.2.2 k (.inr q), HT1.out.s4.of fun k q _ => B.out.2.2 k (.inr (by omega)), fun x y q1 q2 q3 q4 => by rw [B.out.2.2 x (.inr q1), B.out.2.2 y (.inr (by omega))]; exact HT1.out.c2 x y q1 q2 q3 q4⟩
                have q3 := IH.out cap mid en b d2 wr (by omega) (by omega) (by omega) (by omega) (by omega) T2.out C3.out.1 C3.out.2.1 C3.out.2.2
                rw [s2] at q3
                have Q3 := Lib.hid q3
                clear q3
                go_wp2_with fail
                refine Q3.out.mono ?_
                rintro e w4 ⟨rfl, d3, s3, c1, c2, c3, t3⟩
                have E := Lib.hid (sym_done (by omega) (by omega) (by omega) (by omega) (by omega) (by omega) V1.out HT1.out B.out c1 c2 c3)
                have T3 := Lib.hid t3
                clear c1 c2 c3 t3
                go_wp2
                all_goals go_end0
                all_goals exact ⟨rfl, d3, s3, E.out.1, E.out.2.1, E.out.2.2, T3.out⟩
              · have g1 : (i : Int) < (m : Int) := by omega
                have g2 : ¬ (m : Int) < (en : Int) := by omega
                have g3 : (a : Int) < (i : Int) := by omega
                have g4 : ¬ (i : Int) < (mid : Int) := by omega
                have g5 : (mid : Int) < (en : Int) := by omega
                have g6 : ¬ (en : Int) < (b : Int) := by omega
                obtain ⟨d1, s1, v1, t1⟩ : ∃ d1 : Array Int, d1.size = d.size ∧ vw d1 = rot (vw d) i m en ∧ SW (eN nn) w0 blk off d1 wr := ⟨d, rfl, (rot_none _ (by omega) (by omega) (by omega)).symm, HS.out⟩
                have V1 := Lib.hid v1
                have T1 := Lib.hid t1
                clear v1 t1
                have HT1 : Hid (Tn wt (vw d1) a mid b i en) := by rw [Hid, V1.out]; exact HT.out
                obtain ⟨d2, s2, b1, b2, b3, t2⟩ : ∃ d2 : Array Int, d2.size = d.size ∧ So wt (vw d2) a mid ∧ Sm (vw d1) (vw d2) a mid ∧ Of (vw d1) (vw d2) a mid ∧ SW (eN nn) w0 blk off d2 wr := ⟨d1, s1, by have q := HT1.out.s1; rwa [show i = mid by omega] at q, Sm.refl _ _ _, Of.refl _ _ _, T1.out⟩
                have B := Lib.hid (show So wt (vw d2) a mid ∧ Sm (vw d1) (vw d2) a mid ∧ Of (vw d1) (vw d2) a mid from ⟨b1, b2, b3⟩)
                have T2 := Lib.hid t2
                clear b1 b2 b3 t2
                have C3 : Hid (So wt (vw d2) mid en ∧ So wt (vw d2) en b ∧ Cr (vw d2) mid en b) := ⟨HT1.out.s3.of fun k q _ => B.out.2.2 k (.inr q), HT1.out.s4.of fun k q _ => B.out.2.2 k (.inr (by omega)), fun x y q1 q2 q3 q4 => by rw [B.out.2.2 x (.inr q1), B.out.2.2 y (.inr (by omega))]; exact HT1.out.c2 x y q1 q2 q3 q4⟩
                obtain ⟨d3, s3, c1, c2, c3, t3⟩ : ∃ d3 : Array Int, d3.size = d.size ∧ So wt (vw d3) mid b ∧ Sm (vw d2) (vw d3) mid b ∧ Of (vw d2) (vw d3) mid b ∧ SW (eN nn) w0 blk off d3 wr := ⟨d2, s2, by have q := C3.out.1; rwa [show en = b by omega] at q, Sm.refl _ _ _, Of.refl _ _ _, T2.out⟩
                have E := Lib.hid (sym_done (by omega) (by omega) (by omega) (by omega) (by omega) (by omega) V1.out HT1.out B.out c1 c2 c3)
                have T3 := Lib.hid t3
                clear c1 c2 c3 t3
                go_wp2
                all_goals go_end0
                all_goals exact ⟨rfl, d3, s3, E.out.1, E.out.2.1, E.out.2.2, T3.out⟩
            · by_cases y3 : en < b
              · have g1 : (i : Int) < (m : Int) := by omega
                have g2 : ¬ (m : Int) < (en : Int) := by omega
                have g3 : ¬ (a : Int) < (i : Int) := by omega
                have g4 : ¬ (i : Int) < (mid : Int) := by omega
                have g5 : (mid : Int) < (en : Int) := by omega
                have g6 : (en : Int) < (b : Int) := by omega
                obtain ⟨d1, s1, v1, t1⟩ : ∃ d1 : Array Int, d1.size = d.size ∧ vw d1 = rot (vw d) i m en ∧ SW (eN nn) w0 blk off d1 wr := ⟨d, rfl, (rot_none _ (by omega) (by omega) (by omega)).symm, HS.out⟩
                have V1 := Lib.hid v1
                have T1 := Lib.hid t1
                clear v1 t1
                have HT1 : Hid (Tn wt (vw d1) a mid b i en) := by rw [Hid, V1.out]; exact HT.out
                obtain ⟨d2, s2, b1, b2, b3, t2⟩ : ∃ d2 : Array Int, d2.size = d.size ∧ So wt (vw d2) a mid ∧ Sm (vw d1) (vw d2) a mid ∧ Of (vw d1) (vw d2) a mid ∧ SW (eN nn) w0 blk off d2 wr := ⟨d1, s1, by have q := HT1.out.s2; rwa [show i = a by omega] at q, Sm.refl _ _ _, Of.refl _ _ _, T1.out⟩
                have B := Lib.hid (show So wt (vw d2) a mid ∧ Sm (vw d1) (vw d2) a mid ∧ Of (vw d1) (vw d2) a mid from ⟨b1, b2, b3⟩)
                have T2 := Lib.hid t2
                clear b1 b2 b3 t2
                have C3 : Hid (So wt (vw d2) mid en ∧ So wt (vw d2) en b ∧ Cr (vw d2) mid en b) := ⟨HT1.out.s3.of fun k q _ => B.out.2.2 k (.inr q), HT1.out.s4.of fun k q _ => B.out.2.2 k (.inr (by omega)), fun x y q1 q2 q3 q4 => by rw [B.out.2.2 x (.inr q1), B.out.2.2 y (.inr (by omega))]; exact HT1.out.c2 x y q1 q2 q3 q4⟩
                have q3 := IH.out cap mid en b d2 wr (by omega) (by omega) (by omega) (by omega) (by omega) T2.out C3.out.1 C3.out.2.1 C3.out.2.2
                rw [s2] at q3
                have Q3 := Lib.hid q3
                clear q3
                go_wp2_with fail
                refine Q3.out.mono ?_
                rintro e w4 ⟨rfl, d3, s3, c1, c2, c3, t3⟩
                have E := Lib.hid (sym_done (by omega) (by omega) (by omega) (by omega) (by omega) (by omega) V1.out HT1.out B.out c1 c2 c3)
                have T3 := Lib.hid t3
                clear c1 c2 c3 t3
                go_wp2
                all_goals go_end0
                all_goals exact ⟨rfl, d3, s3, E.out.1, E.out.2.1, E.out.2.2, T3.out⟩
              · have g1 : (i : Int) < (m : Int) := by omega
                have g2 : ¬ (m : Int) < (en : Int) := by omega
                have g3 : ¬ (a : Int) < (i : Int) := by omega
                have g4 : ¬ (i : Int) < (mid : Int) := by omega
                have g5 : (mid : Int) < (en : Int) := by omega
                have g6 : ¬ (en : Int) < (b : Int) := by omega
                obtain ⟨d1, s1, v1, t1⟩ : ∃ d1 : Array Int, d1.size = d.size ∧ vw d1 = rot (vw d) i m en ∧ SW (eN nn) w0 blk off d1 wr := ⟨d, rfl, (rot_none _ (by omega) (by omega) (by omega)).symm, HS.out⟩
                have V1 := Lib.hid v1
                have T1 := Lib.hid t1
                clear v1 t1
                have HT1 : Hid (Tn wt (vw d1) a mid b i en) := by rw [Hid, V1.out]; exact HT.out
                obtain ⟨d2, s2, b1, b2, b3, t2⟩ : ∃ d2 : Array Int, d2.size = d.size ∧ So wt (vw d2) a mid ∧ Sm (vw d1) (vw d2) a mid ∧ Of (vw d1) (vw d2) a mid ∧ SW (eN nn) w0 blk off d2 wr := ⟨d1, s1, by have q := HT1.out.s2; rwa [show i = a by omega] at q, Sm.refl _ _ _, Of.refl _ _ _, T1.out⟩
                have B := Lib.hid (show So wt (vw d2) a mid ∧ Sm (vw d1) (vw d2) a mid ∧ Of (vw d1) (vw d2) a mid from ⟨b1, b2, b3⟩)
                have T2 := Lib.hid t2
                clear b1 b2 b3 t2
                have C3 : Hid (So wt (vw d2) mid en ∧ So wt (vw d2) en b ∧ Cr (vw d2) mid en b) := ⟨HT1.out.s3.of fun k q _ => B.out.2.2 k (.inr q), HT1.out.s4.of fun k q _ => B.out.2.2 k (.inr (by omega)), fun x y q1 q2 q3 q4 => by rw [B.out.2.2 x (.inr q1), B.out.2.2 y (.inr (by omega))]; exact HT1.out.c2 x y q1 q2 q3 q4⟩
                obtain ⟨d3, s3, c1, c2, c3, t3⟩ : ∃ d3 : Array Int, d3.size = d.size ∧ So wt (vw d3) mid b ∧ Sm (vw d2) (vw d3) mid b ∧ Of (vw d2) (vw d3) mid b ∧ SW (eN nn) w0 blk off d3 wr := ⟨d2, s2, by have q := C3.out.1; rwa [show en = b by omega] at q, Sm.refl _ _ _, Of.refl _ _ _, T2.out⟩
                have E := Lib.hid (sym_done (by omega) (by omega) (by omega) (by omega) (by omega) (by omega) V1.out HT1.out B.out c1 c2 c3)
                have T3 := Lib.hid t3
                clear c1 c2 c3 t3
                go_wp2
                all_goals go_end0
                all_goals exact ⟨rfl, d3, s3, E.out.1, E.out.2.1, E.out.2.2, T3.out⟩
        · by_cases y1 : m < en
          · by_cases y2 : a < i
            · by_cases y3 : en < b
              · have g1 : ¬ (i : Int) < (m : Int) := by omega
                have g2 : (m : Int) < (en : Int) := by omega
                have g3 : (a : Int) < (i : Int) := by omega
                have g4 : (i : Int) < (mid : Int) := by omega
                have g5 : ¬ (mid : Int) < (en : Int) := by omega
                have g6 : (en : Int) < (b : Int) := by omega
                obtain ⟨d1, s1, v1, t1⟩ : ∃ d1 : Array Int, d1.size = d.size ∧ vw d1 = rot (vw d) i m en ∧ SW (eN nn) w0 blk off d1 wr := ⟨d, rfl, (rot_none _ (by omega) (by omega) (by omega)).symm, HS.out⟩
                have V1 := Lib.hid v1
                have T1 := Lib.hid t1
                clear v1 t1
                have HT1 : Hid (Tn wt (vw d1) a mid b i en) := by rw [Hid, V1.out]; exact HT.out
                have q2 := IH.out cap a i mid d1 wr (by omega) (by omega) (by omega) (by omega) (by omega) T1.out HT1.out.s1 HT1.out.s2 HT1.out.c1
                rw [s1] at q2
                have Q2 := Lib.hid q2
                clear q2
                go_wp2_with fail
                refine Q2.out.mono ?_
                rintro e w3 ⟨rfl, d2, s2, b1, b2, b3, t2⟩
                have B := Lib.hid (show So wt (vw d2) a mid ∧ Sm (vw d1) (vw d2) a mid ∧ Of (vw d1) (vw d2) a mid from ⟨b1, b2, b3⟩)
                have T2 := Lib.hid t2
                clear b1 b2 b3 t2
                have C3 : Hid (So wt (vw d2) mid en ∧ So wt (vw d2) en b ∧ Cr (vw d2) mid en b) := ⟨HT1.out.s3.of fun k q _ => B.out.2.2 k (.inr q), HT1.out.s4.of fun k q _ => B.out.2.2 k (.inr (by omega)), fun x y q1 q2 q3 q4 => by rw [B.out.2.2 x (.inr q1), B.out.2.2 y (.inr (by omega))]; exact HT1.out.c2 x y q1 q2 q3 q4⟩
                obtain ⟨d3, s3, c1, c2, c3, t3⟩ : ∃ d3 : Array Int, d3.size = d.size ∧ So wt (vw d3) mid b ∧ Sm (vw d2) (vw d3) mid b ∧ Of (vw d2) (vw d3) mid b ∧ SW (eN nn) w0 blk off d3 w3 := ⟨d2, s2, by have q := C3.out.2.1; rwa [show en = mid by omega] at q, Sm.refl _ _ _, Of.refl _ _ _, T2.out⟩
                have E := Lib.hid (sym_done (by omega) (by omega) (by omega) (by omega) (by omega) (by omega) V1.out HT1.out B.out c1 c2 c3)
                have T3 := Lib.hid t3
                clear c1 c2 c3 t3
                go_wp2
                all_goals go_end0
                all_goals exact ⟨rfl, d3, s3, E.out.1, E.out.2.1, E.out.2.2, T3.out⟩
              · have g1 : ¬ (i : Int) < (m : Int) := by omega
                have g2 : (m : Int) < (en : Int) := by omega
                have g3 : (a : Int) < (i : Int) := by omega
                have g4 : (i : Int) < (mid : Int) := by omega
                have g5 : ¬ (mid : Int) < (en : Int) := by omega
                have g6 : ¬ (en : Int) < (b : Int) := by omega
                obtain ⟨d1, s1, v1, t1⟩ : ∃ d1 : Array Int, d1.size = d.size ∧ vw d1 = rot (vw d) i m en ∧ SW (eN nn) w0 blk off d1 wr := ⟨d, rfl, (rot_none _ (by omega) (by omega) (by omega)).symm, HS.out⟩
                have V1 := Lib.hid v1
                have T1 := Lib.hid t1
                clear v1 t1
                have HT1 : Hid (Tn wt (vw d1) a mid b i en) := by rw [Hid, V1.out]; exact HT.out
                have q2 := IH.out cap a i mid d1 wr (by omega) (by omega) (by omega) (by omega) (by omega) T1.out HT1.out.s1 HT1.out.s2 HT1.out.c1
                rw [s1] at q2
                have Q2 := Lib.hid q2
                clear q2
                go_wp2_with fail
                refine Q2.out.mono ?_
                rintro e w3 ⟨rfl, d2, s2, b1, b2, b3, t2⟩
                have B := Lib.hid (show So wt (vw d2) a mid ∧ Sm (vw d1) (vw d2) a mid ∧ Of (vw d1) (vw d2) a mid from ⟨b1, b2, b3⟩)
                have T2 := Lib.hid t2
                clear b1 b2 b3 t2
                have C3 : Hid (So wt (vw d2) mid en ∧ So wt (vw d2) en b ∧ Cr (vw d2) mid en b) := ⟨HT1.out.s3.of fun k q _ => B.out.2.2 k (.inr q), HT1.out.s4.of fun k q _ => B.out.2.2 k (.inr (by omega)), fun x y q1 q2 q3 q4 => by rw [B.out.2.2 x (.inr q1), B.out.2.2 y (.inr (by omega))]; exact HT1.out.c2 x y q1 q2 q3 q4⟩
                obtain ⟨d3, s3, c1, c2, c3, t3⟩ : ∃ d3 : Array Int, d3.size = d.size ∧ So wt (vw d3) mid b ∧ Sm (vw d2) (vw d3) mid b ∧ Of (vw d2) (vw d3) mid b ∧ SW (eN nn) w0 blk off d3 w3 := ⟨d2, s2, by have q := C3.out.2.1; rwa [show en = mid by omega] at q, Sm.refl _ _ _, Of.refl _ _ _, T2.out⟩
                have E := Lib.hid (sym_done (by omega) (by omega) (by omega) (by omega) (by omega) (by omega) V1.out HT1.out B.out c1 c2 c3)
                have T3 := Lib.hid t3
                clear c1 c2 c3 t3
                go_wp2
                all_goals go_end0
                all_goals exact ⟨rfl, d3, s3, E.out.1, E.out.2.1, E.out.2.2, T3.out⟩
            · by_cases y3 : en < b
              · have g1 : ¬ (i : Int) < (m : Int) := by omega
                have g2 : (m : Int) < (en : Int) := by omega
                have g3 : ¬ (a : Int) < (i : Int) := by omega
                have g4 : (i : Int) < (mid : Int) := by omega
                have g5 : ¬ (mid : Int) < (en : Int) := by omega
                have g6 : (en : Int) < (b : Int) := by omega
                obtain ⟨d1, s1, v1, t1⟩ : ∃ d1 : Array Int, d1.size = d.size ∧ vw d1 = rot (vw d) i m en ∧ SW (eN nn) w0 blk off d1 wr := ⟨d, rfl, (rot_none _ (by omega) (by omega) (by omega)).symm, HS.out⟩
                have V1 := Lib.hid v1
                have T1 := Lib.hid t1
                clear v1 t1
                have HT1 : Hid (Tn wt (vw d1) a mid b i en) := by rw [Hid, V1.out]; exact HT.out
                obtain ⟨d2, s2, b1, b2, b3, t2⟩ : ∃ d2 : Array Int, d2.size = d.size ∧ So wt (vw d2) a mid ∧ Sm (vw d1) (vw d2) a mid ∧ Of (vw d1) (vw d2) a mid ∧ SW (eN nn) w0 blk off d2 wr := ⟨d1, s1, by have q := HT1.out.s2; rwa [show i = a by omega] at q, Sm.refl _ _ _, Of.refl _ _ _, T1.out⟩
                have B := Lib.hid (show So wt (vw d2) a mid ∧ Sm (vw d1) (vw d2) a mid ∧ Of (vw d1) (vw d2) a mid from ⟨b1, b2, b3⟩)
                have T2 := Lib.hid t2
                clear b1 b2 b3 t2
                have C3 : Hid (So wt (vw d2) mid en ∧ So wt (vw d2) en b ∧ Cr (vw d2) mid en b) := ⟨HT1.out.s3.of fun k q _ => B.out.2.2 k (.inr q), HT1.out.s4.of fun k q _ => B.out.2.2 k (.inr (by omega)), fun x y q1 q2 q3 q4 => by rw [B.out.2.2 x (.inr q1), B.out.2.2 y (.inr (by omega))]; exact HT1.out.c2 x y q1 q2 q3 q4⟩
                obtain ⟨d3, s3, c1, c2, c3, t3⟩ : ∃ d3 : Array Int, d3.size = d.size ∧ So wt (vw d3) mid b ∧ Sm (vw d2) (vw d3) mid b ∧ Of (vw d2) (vw d3) mid b ∧ SW (eN nn) w0 blk off d3 wr := ⟨d2, s2, by have q := C3.out.2.1; rwa [show en = mid by omega] at q, Sm.refl _ _ _, Of.refl _ _ _, T2.out⟩
                have E := Lib.hid (sym_done (by omega) (by omega) (by omega) (by omega) (by omega) (by omega) V1.out HT1.out B.out c1 c2 c3)
                have T3 := Lib.hid t3
                clear c1 c2 c3 t3
                go_wp2
                all_goals go_end0
                all_goals exact ⟨rfl, d3, s3, E.out.1, E.out.2.1, E.out.2.2, T3.out⟩
              · have g1 : ¬ (i : Int) < (m : Int) := by omega
                have g2 : (m : Int) < (en : Int) := by omega
                have g3 : ¬ (a : Int) < (i : Int) := by omega
                have g4 : (i : Int) < (mid : Int) := by omega
                have g5 : ¬ (mid : Int) < (en : Int) := by omega
                have g6 : ¬ (en : Int) < (b : Int) := by omega
                obtain ⟨d1, s1, v1, t1⟩ : ∃ d1 : Array Int, d1.size = d.size ∧ vw d1 = rot (vw d) i m en ∧ SW (eN nn) w0 blk off d1 wr := ⟨d, rfl, (rot_none _ (by omega) (by omega) (by omega)).symm, HS.out⟩
                have V1 := Lib.hid v1
                have T1 := Lib.hid t1
                clear v1 t1
                have HT1 : Hid (Tn wt (vw d1) a mid b i en) := by rw [Hid, V1.out]; exact HT.out
                obtain ⟨d2, s2, b1, b2, b3, t2⟩ : ∃ d2 : Array Int, d2.size = d.size ∧ So wt (vw d2) a mid ∧ Sm (vw d1) (vw d2) a mid ∧ Of (vw d1) (vw d2) a mid ∧ SW (eN nn) w0 blk off d2 wr := ⟨d1, s1, by have q := HT1.out.s2; rwa [show i = a by omega] at q, Sm.refl _ _ _, Of.refl _ _ _, T1.out⟩
                have B := Lib.hid (show So wt (vw d2) a mid ∧ Sm (vw d1) (vw d2) a mid ∧ Of (vw d1) (vw d2) a mid from ⟨b1, b2, b3⟩)
                have T2 := Lib.hid t2
                clear b1 b2 b3 t2
                have C3 : Hid (So wt (vw d2) mid en ∧ So wt (vw d2) en b ∧ Cr (vw d2) mid en b) := ⟨HT1.out.s3.of fun k q _ => B.out.2.2 k (.inr q), HT1.out.s4.of fun k q _ => B.out.2.2 k (.inr (by omega)), fun x y q1 q2 q3 q4 => by rw [B.out.2.2 x (.inr q1), B.out.2.2 y (.inr (by omega))]; exact HT1.out.c2 x y q1 q2 q3 q4⟩
                obtain ⟨d3, s3, c1, c2, c3, t3⟩ : ∃ d3 : Array Int, d3.size = d.size ∧ So wt (vw d3) mid b ∧ Sm (vw d2) (vw d3) mid b ∧ Of (vw d2) (vw d3) mid b ∧ SW (eN nn) w0 blk off d3 wr := ⟨d2, s2, by have q := C3.out.2.1; rwa [show en = mid by omega] at q, Sm.refl _ _ _, Of.refl _ _ _, T2.out⟩
                have E := Lib.hid (sym_done (by omega) (by omega) (by omega) (by omega) (by omega) (by omega) V1.out HT1.out B.out c1 c2 c3)
                have T3 := Lib.hid t3
                clear c1 c2 c3 t3
                go_wp2
                all_goals go_end0
                all_goals exact ⟨rfl, d3, s3, E.out.1, E.out.2.1, E.out.2.2, T3.out⟩
          · by_cases y2 : a < i
            · by_cases y3 : en < b
              · have g1 : ¬ (i : Int) < (m : Int) := by omega
                have g2 : ¬ (m : Int) < (en : Int) := by omega
                have g3 : (a : Int) < (i : Int) := by omega
                have g4 : ¬ (i : Int) < (mid : Int) := by omega
                have g5 : ¬ (mid : Int) < (en : Int) := by omega
                have g6 : (en : Int) < (b : Int) := by omega
                obtain ⟨d1, s1, v1, t1⟩ : ∃ d1 : Array Int, d1.size = d.size ∧ vw d1 = rot (vw d) i m en ∧ SW (eN nn) w0 blk off d1 wr := ⟨d, rfl, (rot_none _ (by omega) (by omega) (by omega)).symm, HS.out⟩
                have V1 := Lib.hid v1
                have T1 := Lib.hid t1
                clear v1 t1
                have HT1 : Hid (Tn wt (vw d1) a mid b i en) := by rw [Hid, V1.out]; exact HT.out
                obtain ⟨d2, s2, b1, b2, b3, t2⟩ : ∃ d2 : Array Int, d2.size = d.size ∧ So wt (vw d2) a mid ∧ Sm (vw d1) (vw d2) a mid ∧ Of (vw d1) (vw d2) a mid ∧ SW (eN nn) w0 blk off d2 wr := ⟨d1, s1, by have q := HT1.out.s1; rwa [show i = mid by omega] at q, Sm.refl _ _ _, Of.refl _ _ _, T1.out⟩
                have B := Lib.hid (show So wt (vw d2) a mid ∧ Sm (vw d1) (vw d2) a mid ∧ Of (vw d1) (vw d2) a mid from ⟨b1, b2, b3⟩)
                have T2 := Lib.hid t2
                clear b1 b2 b3 t2
                have C3 : Hid (So wt (vw d2) mid en ∧ So wt (vw d2) en b ∧ Cr (vw d2) mid en b) := ⟨HT1.out.s3.of fun k q _ => B.out.2.2 k (.inr q), HT1.out.s4.of fun k q _ => B.out.2.2 k (.inr (by omega)), fun x y q1 q2 q3 q4 => by rw [B.out.2.2 x (.inr q1), B.out.2.2 y (.inr (by omega))]; exact HT1.out.c2 x y q1 q2 q3 q4⟩
                obtain ⟨d3, s3, c1, c2, c3, t3⟩ : ∃ d3 : Array Int, d3.size = d.size ∧ So wt (vw d3) mid b ∧ Sm (vw d2) (vw d3) mid b ∧ Of (vw d2) (vw d3) mid b ∧ SW (eN nn) w0 blk off d3 wr := ⟨d2, s2, by have q := C3.out.2.1; rwa [show en = mid by omega] at q, Sm.refl _ _ _, Of.refl _ _ _, T2.out⟩
                have E := Lib.hid (sym_done (by omega) (by omega) (by omega) (by omega) (by omega) (by omega) V1.out HT1.out B.out c1 c2 c3)
                have T3 := Lib.hid t3
                clear c1 c2 c3 t3
                go_wp2
                all_goals go_end0
                all_goals exact ⟨rfl, d3, s3, E.out.1, E.out.2.1, E.out.2.2, T3.out⟩
              · have g1 : ¬ (i : Int) < (m : Int) := by omega
                have g2 : ¬ (m : Int) < (en : Int) := by omega
                have g3 : (a : Int) < (i : Int) := by omega
                have g4 : ¬ (i : Int) < (mid : Int) := by omega
                have g5 : ¬ (mid : Int) < (en : Int) := by omega
                have g6 : ¬ (en : Int) < (b : Int) := by omega
                obtain ⟨d1, s1, v1, t1⟩ : ∃ d1 : Array Int, d1.size = d.size ∧ vw d1 = rot (vw d) i m en ∧ SW (eN nn) w0 blk off d1 wr := ⟨d, rfl, (rot_none _ (by omega) (by omega) (by omega)).symm, HS.out⟩
                have V1 := Lib.hid v1
                have T1 := Lib.hid t1
                clear v1 t1
                have HT1 : Hid (Tn wt (vw d1) a mid b i en) := by rw [Hid, V1.out]; exact HT.out
                obtain ⟨d2, s2, b1, b2, b3, t2⟩ : ∃ d2 : Array Int, d2.size = d.size ∧ So wt (vw d2) a mid ∧ Sm (vw d1) (vw d2) a mid ∧ Of (vw d1) (vw d2) a mid ∧ SW (eN nn) w0 blk off d2 wr := ⟨d1, s1, by have q := HT1.out.s1; rwa [show i = mid by omega] at q, Sm.refl _ _ _, Of.refl _ _ _, T1.out⟩
                have B := Lib.hid (show So wt (vw d2) a mid ∧ Sm (vw d1) (vw d2) a mid ∧ Of (vw d1) (vw d2) a mid from ⟨b1, b2, b3⟩)
                have T2 := Lib.hid t2
                clear b1 b2 b3 t2
                have C3 : Hid (So wt (vw d2) mid en ∧ So wt (vw d2) en b ∧ Cr (vw d2) mid en b) := ⟨HT1.out.s3.of fun k q _ => B.out.2.2 k (.inr q), HT1.out.s4.of fun k q _ => B.out.2.2 k (.inr (by omega)), fun x y q1 q2 q3 q4 => by rw [B.out.2.2 x (.inr q1), B.out.2.2 y (.inr (by omega))]; exact HT1.out.c2 x y q1 q2 q3 q4⟩
                obtain ⟨d3, s3, c1, c2, c3, t3⟩ : ∃ d3 : Array Int, d3.size = d.size ∧ So wt (vw d3) mid b ∧ Sm (vw d2) (vw d3) mid b ∧ Of (vw d2) (vw d3) mid b ∧ SW (eN nn) w0 blk off d3 wr := ⟨d2, s2, by have q := C3.out.2.1; rwa [show en = mid by omega] at q, Sm.refl _ _ _, Of.refl _ _ _, T2.out⟩
                have E := Lib.hid (sym_done (by omega) (by omega) (by omega) (by omega) (by omega) (by omega) V1.out HT1.out B.out c1 c2 c3)
                have T3 := Lib.hid t3
                clear c1 c2 c3 t3
                go_wp2
                all_goals go_end0
                all_goals exact ⟨rfl, d3, s3, E.out.1, E.out.2.1, E.out.2.2, T3.out⟩
            · by_cases y3 : en < b
              · have g1 : ¬ (i : Int) < (m : Int) := by omega
                have g2 : ¬ (m : Int) < (en : Int) := by omega
                have g3 : ¬ (a : Int) < (i : Int) := by omega
                have g4 : ¬ (i : Int) < (mid : Int) := by omega
                have g5 : ¬ (mid : Int) < (en : Int) := by omega
                have g6 : (en : Int) < (b : Int) := by omega
                obtain ⟨d1, s1, v1, t1⟩ : ∃ d1 : Array Int, d1.size = d.size ∧ vw d1 = rot (vw d) i m en ∧ SW (eN nn) w0 blk off d1 wr := ⟨d, rfl, (rot_none _ (by omega) (by omega) (by omega)).symm, HS.out⟩
                have V1 := Lib.hid v1
                have T1 := Lib.hid t1
                clear v1 t1
                have HT1 : Hid (Tn wt (vw d1) a mid b i en) := by rw [Hid, V1.out]; exact HT.out
                obtain ⟨d2, s2, b1, b2, b3, t2⟩ : ∃ d2 : Array Int, d2.size = d.size ∧ So wt (vw d2) a mid ∧ Sm (vw d1) (vw d2) a mid ∧ Of (vw d1) (vw d2) a mid ∧ SW (eN nn) w0 blk off d2 wr := ⟨d1, s1, by have q := HT1.out.s2; rwa [show i = a by omega] at q, Sm.refl _ _ _, Of.refl _ _ _, T1.out⟩
                have B := Lib.hid (show So wt (vw d2) a mid ∧ Sm (vw d1) (vw d2) a mid ∧ Of (vw d1) (vw d2) a mid from ⟨b1, b2, b3⟩)
                have T2 := Lib.hid t2
                clear b1 b2 b3 t2
                have C3 : Hid (So wt (vw d2) mid en ∧ So wt (vw d2) en b ∧ Cr (vw d2) mid en b) := ⟨HT1.out.s3.of fun k q _ => B.out.2.2 k (.inr q), HT1.out.s4.of fun k q _ => B.out.2.2 k (.inr (by omega)), fun x y q1 q2 q3 q4 => by rw [B.out.2.2 x (.inr q1), B.out.2.2 y (.inr (by omega))]; exact HT1.out.c2 x y q1 q2 q3 q4⟩
                obtain ⟨d3, s3, c1, c2, c3, t3⟩ : ∃ d3 : Array Int, d3.size = d.size ∧ So wt (vw d3) mid b ∧ Sm (vw d2) (vw d3) mid b ∧ Of (vw d2) (vw d3) mid b ∧ SW (eN nn) w0 blk off d3 wr := ⟨d2, s2, by have q := C3.out.2.1; rwa [show en = mid by omega] at q, Sm.refl _ _ _, Of.refl _ _ _, T2.out⟩
                have E := Lib.hid (sym_done (by omega) (by omega) (by omega) (by omega) (by omega) (by omega) V1.out HT1.out B.out c1 c2 c3)
                have T3 := Lib.hid t3
                clear c1 c2 c3 t3
                go_wp2
                all_goals go_end0
                all_goals exact ⟨rfl, d3, s3, E.out.1, E.out.2.1, E.out.2.2, T3.out⟩
              · have g1 : ¬ (i : Int) < (m : Int) := by omega
                have g2 : ¬ (m : Int) < (en : Int) := by omega
                have g3 : ¬ (a : Int) < (i : Int) := by omega
                have g4 : ¬ (i : Int) < (mid : Int) := by omega
                have g5 : ¬ (mid : Int) < (en : Int) := by omega
                have g6 : ¬ (en : Int) < (b : Int) := by omega
                obtain ⟨d1, s1, v1, t1⟩ : ∃ d1 : Array Int, d1.size = d.size ∧ vw d1 = rot (vw d) i m en ∧ SW (eN nn) w0 blk off d1 wr := ⟨d, rfl, (rot_none _ (by omega) (by omega) (by omega)).symm, HS.out⟩
                have V1 := Lib.hid v1
                have T1 := Lib.hid t1
                clear v1 t1
                have HT1 : Hid (Tn wt (vw d1) a mid b i en) := by rw [Hid, V1.out]; exact HT.out
                obtain ⟨d2, s2, b1, b2, b3, t2⟩ : ∃ d2 : Array Int, d2.size = d.size ∧ So wt (vw d2) a mid ∧ Sm (vw d1) (vw d2) a mid ∧ Of (vw d1) (vw d2) a mid ∧ SW (eN nn) w0 blk off d2 wr := ⟨d1, s1, by have q := HT1.out.s2; rwa [show i = a by omega] at q, Sm.refl _ _ _, Of.refl _ _ _, T1.out⟩
                have B := Lib.hid (show So wt (vw d2) a mid ∧ Sm (vw d1) (vw d2) a mid ∧ Of (vw d1) (vw d2) a mid from ⟨b1, b2, b3⟩)
                have T2 := Lib.hid t2
                clear b1 b2 b3 t2
                have C3 : Hid (So wt (vw d2) mid en ∧ So wt (vw d2) en b ∧ Cr (vw d2) mid en b) := ⟨HT1.out.s3.of fun k q _ => B.out.2.2 k (.inr q), HT1.out.s4.of fun k q _ => B.out.2.2 k (.inr (by omega)), fun x y q1 q2 q3 q4 => by rw [B.out.2.2 x (.inr q1), B.out.2.2 y (.inr (by omega))]; exact HT1.out.c2 x y q1 q2 q3 q4⟩
                obtain ⟨d3, s3, c1, c2, c3, t3⟩ : ∃ d3 : Array Int, d3.size = d.size ∧ So wt (vw d3) mid b ∧ Sm (vw d2) (vw d3) mid b ∧ Of (vw d2) (vw d3) mid b ∧ SW (eN nn) w0 blk off d3 wr := ⟨d2, s2, by have q := C3.out.2.1; rwa [show en = mid by omega] at q, Sm.refl _ _ _, Of.refl _ _ _, T2.out⟩
                have E := Lib.hid (sym_done (by omega) (by omega) (by omega) (by omega) (by omega) (by omega) V1.out HT1.out B.out c1 c2 c3)
                have T3 := Lib.hid t3
                clear c1 c2 c3 t3
                go_wp2
                all_goals go_end0
                all_goals exact ⟨rfl, d3, s3, E.out.1, E.out.2.1, E.out.2.2, T3.out⟩
end Go.Proofs.YtckcbfnffmohgaaDoor
