/-
  Walk of seq.balance. Condition: the rows lie in memory as 'SeqAt' says, and have at most 1000 items together.
-/
import Derived.Test.YtckcbfnffmohgaaSpanLeastPk31
namespace Go.Proofs.Ytckcbfnffmohgaa
open Go Go.RowKit SQ
attribute [local go_sem ↓] Go.wp_at_zero Go.wp_at_succ

theorem fst_ {A B : Prop} (h : A ∧ B) : A := h.1
theorem held1 {w W : World} {b : Nat} {lp rp : Option Addr} {x : Int} (he : Ext w W) (hb : b < w.heap.size) (c0 : w.cell? ⟨b, 0, none⟩ = some (.pointer lp)) (c1 : w.cell? ⟨b, 1, none⟩ = some (.pointer rp)) (c2 : w.cell? ⟨b, 2, none⟩ = some (.int .i64 x)) :
    Ext w W ∧ W.cell? ⟨b, 0, none⟩ = some (.pointer lp) ∧ W.cell? ⟨b, 1, none⟩ = some (.pointer rp) ∧ W.cell? ⟨b, 2, none⟩ = some (.int .i64 x) :=
  ⟨he, (he.cell (p := ⟨b, 0, none⟩) hb).trans c0, (he.cell (p := ⟨b, 1, none⟩) hb).trans c1, (he.cell (p := ⟨b, 2, none⟩) hb).trans c2⟩
set_option maxRecDepth 100000 in
set_option maxHeartbeats 1000000 in
theorem bal_sr (w : World) (p q : Option Addr) (l rl rr : T) (x rx : Int) (hl : SeqAt w p l) (hr : SeqAt w q (.node rl rx rr)) (hsz : l.size + 1 + (T.node rl rx rr).size ≤ 1000)
    (h : hv (.node rl rx rr) l = true) (s : sg rl rr = true) :
    Calls Try.prog 52 #[.pointer p, .int .i64 x, .pointer q] w (Made w (.node (.node l x rl) rx rr)) := by
  have hs2 : (T.node rl rx rr).size = rl.size + 1 + rr.size := rfl
  have HL := Lib.hid hl
  have HR := Lib.hid hr
  have Hh := Lib.hid h
  have Hs := Lib.hid s
  obtain ⟨b, lp, rp, rfl, hb, c0, c1, c2, _, r1, r2⟩ := seqCells w hr
  have R1 := Lib.hid r1
  have R2 := Lib.hid r2
  have hz1 : l.size ≤ 1000 := by omega
  have hz2 : rl.size ≤ 1000 := by omega
  have hz3 : rr.size ≤ 1000 := by omega
  have HZ : Hid ((T.node rl rx rr).size ≤ 1000) := by unfold Hid; omega
  have HZ2 : Hid ((T.node l x rl).size ≤ 1000) := by unfold Hid; simp only [T.size]; omega
  clear h s hs2 hl hr r1 r2 hsz
  go_enter Try.func52, Try.ntmps52
  go_wp2_with fail
  refine (heavy_any w _ p (.node rl rx rr) l HR.out HL.out HZ.out hz1 true Hh.out).mono ?_
  rintro e w' ⟨rfl, rfl⟩
  go_wp2_with fail
  go_quiet ((go_at_call 67; exact Calls.quiet_of_same (single_any _ lp rp rl rr (R1.out.ext (Ext.drewN _ _)) (R2.out.ext (Ext.drewN _ _)) hz2 hz3 true Hs.out)))
  go_wp2_with fail
  go_region_held3 (fun w' => Ext w w' ∧ w'.cell? ⟨b, 0, none⟩ = some (.pointer lp) ∧ w'.cell? ⟨b, 1, none⟩ = some (.pointer rp) ∧ w'.cell? ⟨b, 2, none⟩ = some (.int .i64 rx))
    (exact held1 (by first | exact (Ext.drewN _ _).trans (Ext.drew _) | exact Ext.trans (fst_ (by assumption)) (by assumption)) hb c0 c1 c2)
    (first
      | (go_at_call_of 53 (Value.pointer lp); refine (mk_any _ p lp l rl x (HL.out.ext (fst_ (by assumption))) (R1.out.ext (fst_ (by assumption))) hz1 hz2).mono ?_; rintro e w1 ⟨p1, rfl, hs1, hx1⟩)
      | (go_at_call_of 53 (Value.pointer rp); refine (mk_any _ _ rp (T.node l x rl) rr rx (by assumption) (R2.out.ext (fst_ (by assumption))) HZ2.out hz3).mono ?_; rintro e w2 ⟨p2, rfl, hs2, hx2⟩))
  go_wp2
  go_ret
  exact ⟨_, rfl, by assumption, fst_ (by assumption)⟩

set_option maxRecDepth 100000 in
set_option maxHeartbeats 1000000 in
theorem bal_sl (w : World) (p q : Option Addr) (ll lr r : T) (lx x : Int) (hl : SeqAt w p (.node ll lx lr)) (hr : SeqAt w q r) (hsz : (T.node ll lx lr).size + 1 + r.size ≤ 1000)
    (g : hv r (.node ll lx lr) = false) (h : hv (.node ll lx lr) r = true) (s : sg lr ll = true) :
    Calls Try.prog 52 #[.pointer p, .int .i64 x, .pointer q] w (Made w (.node ll lx (.node lr x r))) := by
  have hs2 : (T.node ll lx lr).size = ll.size + 1 + lr.size := rfl
  have HL := Lib.hid hl
  have HR := Lib.hid hr
  have Hg := Lib.hid g
  have Hh := Lib.hid h
  have Hs := Lib.hid s
  obtain ⟨b, lp, rp, rfl, hb, c0, c1, c2, _, r1, r2⟩ := seqCells w hl
  have R1 := Lib.hid r1
  have R2 := Lib.hid r2
  have hz1 : r.size ≤ 1000 := by omega
  have hz2 : ll.size ≤ 1000 := by omega
  have hz3 : lr.size ≤ 1000 := by omega
  have HZ : Hid ((T.node ll lx lr).size ≤ 1000) := by unfold Hid; omega
  have HZ2 : Hid ((T.node lr x r).size ≤ 1000) := by unfold Hid; simp only [T.size]; omega
  clear g h s hs2 hl hr r1 r2 hsz
  go_enter Try.func52, Try.ntmps52
  go_wp2_with fail
  refine (heavy_any w q _ r (.node ll lx lr) HR.out HL.out hz1 HZ.out false Hg.out).mono ?_
  rintro e w' ⟨rfl, rfl⟩
  go_wp2_with fail
  refine (heavy_any w _ q (.node ll lx lr) r HL.out HR.out HZ.out hz1 true Hh.out).mono ?_
  rintro e w' ⟨rfl, rfl⟩
  go_wp2_with fail
  go_quiet ((go_at_call 67; exact Calls.quiet_of_same (single_any _ rp lp lr ll (R2.out.ext (Ext.drewN _ _)) (R1.out.ext (Ext.drewN _ _)) hz3 hz2 true Hs.out)))
  go_wp2_with fail
  go_region_held3 (fun w' => Ext w w' ∧ w'.cell? ⟨b, 0, none⟩ = some (.pointer lp) ∧ w'.cell? ⟨b, 1, none⟩ = some (.pointer rp) ∧ w'.cell? ⟨b, 2, none⟩ = some (.int .i64 lx))
    (exact held1 (by first | exact (Ext.drewN _ _).trans (Ext.drew _) | exact Ext.trans (fst_ (by assumption)) (by assumption)) hb c0 c1 c2)
    (first
      | (go_at_call_of 53 (Value.int IntKind.i64 x); refine (mk_any _ rp q lr r x (R2.out.ext (fst_ (by assumption))) (HR.out.ext (fst_ (by assumption))) hz3 hz1).mono ?_; rintro e w1 ⟨p1, rfl, hs1, hx1⟩)
      | (go_at_call_of 53 (Value.int IntKind.i64 lx); refine (mk_any _ lp _ ll (T.node lr x r) lx (R1.out.ext (fst_ (by assumption))) (by assumption) hz2 HZ2.out).mono ?_; rintro e w2 ⟨p2, rfl, hs2, hx2⟩))
  go_wp2
  go_ret
  exact ⟨_, rfl, by assumption, fst_ (by assumption)⟩

theorem held2 {w W : World} {b b2 : Nat} {lp rp lp2 rp2 : Option Addr} {x y : Int} (he : Ext w W) (hb : b < w.heap.size) (c0 : w.cell? ⟨b, 0, none⟩ = some (.pointer lp)) (c1 : w.cell? ⟨b, 1, none⟩ = some (.pointer rp)) (c2 : w.cell? ⟨b, 2, none⟩ = some (.int .i64 x))
    (hb2 : b2 < w.heap.size) (d0 : w.cell? ⟨b2, 0, none⟩ = some (.pointer lp2)) (d1 : w.cell? ⟨b2, 1, none⟩ = some (.pointer rp2)) (d2 : w.cell? ⟨b2, 2, none⟩ = some (.int .i64 y)) :
    Ext w W ∧ W.cell? ⟨b, 0, none⟩ = some (.pointer lp) ∧ W.cell? ⟨b, 1, none⟩ = some (.pointer rp) ∧ W.cell? ⟨b, 2, none⟩ = some (.int .i64 x) ∧ W.cell? ⟨b2, 0, none⟩ = some (.pointer lp2) ∧ W.cell? ⟨b2, 1, none⟩ = some (.pointer rp2) ∧ W.cell? ⟨b2, 2, none⟩ = some (.int .i64 y) :=
  ⟨he, (he.cell (p := ⟨b, 0, none⟩) hb).trans c0, (he.cell (p := ⟨b, 1, none⟩) hb).trans c1, (he.cell (p := ⟨b, 2, none⟩) hb).trans c2, (he.cell (p := ⟨b2, 0, none⟩) hb2).trans d0, (he.cell (p := ⟨b2, 1, none⟩) hb2).trans d1, (he.cell (p := ⟨b2, 2, none⟩) hb2).trans d2⟩

set_option maxRecDepth 100000 in
set_option maxHeartbeats 2000000 in
theorem bal_dr (w : World) (p q : Option Addr) (l a c rr : T) (x y rx : Int) (hl : SeqAt w p l) (hr : SeqAt w q (.node (.node a y c) rx rr)) (hsz : l.size + 1 + (T.node (.node a y c) rx rr).size ≤ 1000)
    (h : hv (.node (.node a y c) rx rr) l = true) (s : sg (.node a y c) rr = false) :
    Calls Try.prog 52 #[.pointer p, .int .i64 x, .pointer q] w (Made w (.node (.node l x a) y (.node c rx rr))) := by
  have hs2 : (T.node (.node a y c) rx rr).size = (a.size + 1 + c.size) + 1 + rr.size := rfl
  have hs3 : (T.node a y c).size = a.size + 1 + c.size := rfl
  have HL := Lib.hid hl
  have HR := Lib.hid hr
  have Hh := Lib.hid h
  have Hs := Lib.hid s
  obtain ⟨b, lp, rp, rfl, hb, c0, c1, c2, _, r1, r2⟩ := seqCells w hr
  have R1 := Lib.hid r1
  have R2 := Lib.hid r2
  obtain ⟨b2, lp2, rp2, rfl, hb2, d0, d1, d2, _, r3, r4⟩ := seqCells w r1
  have R3 := Lib.hid r3
  have R4 := Lib.hid r4
  have hz1 : l.size ≤ 1000 := by omega
  have hz2 : a.size ≤ 1000 := by omega
  have hz3 : c.size ≤ 1000 := by omega
  have hz4 : rr.size ≤ 1000 := by omega
  have HZ : Hid ((T.node (.node a y c) rx rr).size ≤ 1000) := by unfold Hid; omega
  have HZm : Hid ((T.node a y c).size ≤ 1000) := by unfold Hid; omega
  have HZ2 : Hid ((T.node l x a).size ≤ 1000) := by unfold Hid; simp only [T.size]; omega
  have HZ3 : Hid ((T.node c rx rr).size ≤ 1000) := by unfold Hid; simp only [T.size]; omega
  clear h s hs2 hs3 hl hr r1 r2 r3 r4 hsz
  go_enter Try.func52, Try.ntmps52
  go_wp2_with fail
  refine (heavy_any w _ p (.node (.node a y c) rx rr) l HR.out HL.out HZ.out hz1 true Hh.out).mono ?_
  rintro e w' ⟨rfl, rfl⟩
  go_wp2_with fail
  go_quiet ((go_at_call 67; exact Calls.quiet_of_same (single_any _ _ rp (.node a y c) rr (R1.out.ext (Ext.drewN _ _)) (R2.out.ext (Ext.drewN _ _)) HZm.out hz4 false Hs.out)))
  go_wp2_with fail
  go_region_held3 (fun w' => Ext w w' ∧ w'.cell? ⟨b, 0, none⟩ = some (.pointer (some ⟨b2, 0, none⟩)) ∧ w'.cell? ⟨b, 1, none⟩ = some (.pointer rp) ∧ w'.cell? ⟨b, 2, none⟩ = some (.int .i64 rx) ∧ w'.cell? ⟨b2, 0, none⟩ = some (.pointer lp2) ∧ w'.cell? ⟨b2, 1, none⟩ = some (.pointer rp2) ∧ w'.cell? ⟨b2, 2, none⟩ = some (.int .i64 y))
    (exact held2 (by first | exact (Ext.drewN _ _).trans (Ext.drew _) | exact Ext.trans (fst_ (by assumption)) (by assumption)) hb c0 c1 c2 hb2 d0 d1 d2)
    (first
      | (go_at_call_of 53 (Value.int IntKind.i64 x); refine (mk_any _ p lp2 l a x (HL.out.ext (fst_ (by assumption))) (R3.out.ext (fst_ (by assumption))) hz1 hz2).mono ?_; rintro e w1 ⟨p1, rfl, hs1, hx1⟩)
      | (go_at_call_of 53 (Value.int IntKind.i64 rx); refine (mk_any _ rp2 rp c rr rx (R4.out.ext (fst_ (by assumption))) (R2.out.ext (fst_ (by assumption))) hz3 hz4).mono ?_; rintro e w2 ⟨p2, rfl, hs2, hx2⟩)
      | (go_at_call_of 53 (Value.int IntKind.i64 y); refine (mk_any _ _ _ (T.node l x a) (T.node c rx rr) y (by first | assumption | exact SeqAt.ext (by assumption) (by assumption)) (by first | assumption | exact SeqAt.ext (by assumption) (by assumption)) HZ2.out HZ3.out).mono ?_; rintro e w3 ⟨p3, rfl, hs3, hx3⟩))
  all_goals
    go_wp2
    go_ret
    exact ⟨_, rfl, by assumption, fst_ (by assumption)⟩

set_option maxRecDepth 100000 in
set_option maxHeartbeats 2000000 in
theorem bal_dl (w : World) (p q : Option Addr) (ll a c r : T) (lx x y : Int) (hl : SeqAt w p (.node ll lx (.node a y c))) (hr : SeqAt w q r) (hsz : (T.node ll lx (.node a y c)).size + 1 + r.size ≤ 1000)
    (g : hv r (.node ll lx (.node a y c)) = false) (h : hv (.node ll lx (.node a y c)) r = true) (s : sg (.node a y c) ll = false) :
    Calls Try.prog 52 #[.pointer p, .int .i64 x, .pointer q] w (Made w (.node (.node ll lx a) y (.node c x r))) := by
  have hs2 : (T.node ll lx (.node a y c)).size = ll.size + 1 + (a.size + 1 + c.size) := rfl
  have hs3 : (T.node a y c).size = a.size + 1 + c.size := rfl
  have HL := Lib.hid hl
  have HR := Lib.hid hr
  have Hg := Lib.hid g
  have Hh := Lib.hid h
  have Hs := Lib.hid s
  obtain ⟨b, lp, rp, rfl, hb, c0, c1, c2, _, r1, r2⟩ := seqCells w hl
  have R1 := Lib.hid r1
  have R2 := Lib.hid r2
  obtain ⟨b2, lp2, rp2, rfl, hb2, d0, d1, d2, _, r3, r4⟩ := seqCells w r2
  have R3 := Lib.hid r3
  have R4 := Lib.hid r4
  have hz1 : r.size ≤ 1000 := by omega
  have hz2 : a.size ≤ 1000 := by omega
  have hz3 : c.size ≤ 1000 := by omega
  have hz4 : ll.size ≤ 1000 := by omega
  have HZ : Hid ((T.node ll lx (.node a y c)).size ≤ 1000) := by unfold Hid; omega
  have HZm : Hid ((T.node a y c).size ≤ 1000) := by unfold Hid; omega
  have HZ2 : Hid ((T.node ll lx a).size ≤ 1000) := by unfold Hid; simp only [T.size]; omega
  have HZ3 : Hid ((T.node c x r).size ≤ 1000) := by unfold Hid; simp only [T.size]; omega
  clear g h s hs2 hs3 hl hr r1 r2 r3 r4 hsz
  go_enter Try.func52, Try.ntmps52
  go_wp2_with fail
  refine (heavy_any w q _ r (.node ll lx (.node a y c)) HR.out HL.out hz1 HZ.out false Hg.out).mono ?_
  rintro e w' ⟨rfl, rfl⟩
  go_wp2_with fail
  refine (heavy_any w _ q (.node ll lx (.node a y c)) r HL.out HR.out HZ.out hz1 true Hh.out).mono ?_
  rintro e w' ⟨rfl, rfl⟩
  go_wp2_with fail
  go_quiet ((go_at_call 67; exact Calls.quiet_of_same (single_any _ _ lp (.node a y c) ll (R2.out.ext (Ext.drewN _ _)) (R1.out.ext (Ext.drewN _ _)) HZm.out hz4 false Hs.out)))
  go_wp2_with fail
  go_region_held3 (fun w' => Ext w w' ∧ w'.cell? ⟨b, 0, none⟩ = some (.pointer lp) ∧ w'.cell? ⟨b, 1, none⟩ = some (.pointer (some ⟨b2, 0, none⟩)) ∧ w'.cell? ⟨b, 2, none⟩ = some (.int .i64 lx) ∧ w'.cell? ⟨b2, 0, none⟩ = some (.pointer lp2) ∧ w'.cell? ⟨b2, 1, none⟩ = some (.pointer rp2) ∧ w'.cell? ⟨b2, 2, none⟩ = some (.int .i64 y))
    (exact held2 (by first | exact (Ext.drewN _ _).trans (Ext.drew _) | exact Ext.trans (fst_ (by assumption)) (by assumption)) hb c0 c1 c2 hb2 d0 d1 d2)
    (first
      | (go_at_call_of 53 (Value.int IntKind.i64 lx); refine (mk_any _ lp lp2 ll a lx (R1.out.ext (fst_ (by assumption))) (R3.out.ext (fst_ (by assumption))) hz4 hz2).mono ?_; rintro e w1 ⟨p1, rfl, hs1, hx1⟩)
      | (go_at_call_of 53 (Value.int IntKind.i64 x); refine (mk_any _ rp2 q c r x (R4.out.ext (fst_ (by assumption))) (HR.out.ext (fst_ (by assumption))) hz3 hz1).mono ?_; rintro e w2 ⟨p2, rfl, hs2, hx2⟩)
      | (go_at_call_of 53 (Value.int IntKind.i64 y); refine (mk_any _ _ _ (T.node ll lx a) (T.node c x r) y (by first | assumption | exact SeqAt.ext (by assumption) (by assumption)) (by first | assumption | exact SeqAt.ext (by assumption) (by assumption)) HZ2.out HZ3.out).mono ?_; rintro e w3 ⟨p3, rfl, hs3, hx3⟩))
  all_goals
    go_wp2
    go_ret
    exact ⟨_, rfl, by assumption, fst_ (by assumption)⟩

set_option maxRecDepth 100000 in
set_option maxHeartbeats 1000000 in
theorem bal_no (w : World) (p q : Option Addr) (l r : T) (x : Int) (hl : SeqAt w p l) (hr : SeqAt w q r) (hsz : l.size + 1 + r.size ≤ 1000)
    (g : hv r l = false) (h : hv l r = false) :
    Calls Try.prog 52 #[.pointer p, .int .i64 x, .pointer q] w (Made w (.node l x r)) := by
  have HL := Lib.hid hl
  have HR := Lib.hid hr
  have Hg := Lib.hid g
  have Hh := Lib.hid h
  have hz1 : r.size ≤ 1000 := by omega
  have hz2 : l.size ≤ 1000 := by omega
  clear g h hl hr hsz
  go_enter Try.func52, Try.ntmps52
  go_wp2_with fail
  refine (heavy_any w q p r l HR.out HL.out hz1 hz2 false Hg.out).mono ?_
  rintro e w' ⟨rfl, rfl⟩
  go_wp2_with fail
  refine (heavy_any w p q l r HL.out HR.out hz2 hz1 false Hh.out).mono ?_
  rintro e w' ⟨rfl, rfl⟩
  go_wp2_with fail
  refine (mk_any w p q l r x HL.out HR.out hz2 hz1).mono ?_
  rintro e w1 ⟨p1, rfl, hs1, hb1⟩
  go_wp2
  go_ret
  exact ⟨_, rfl, hs1, hb1⟩

theorem bal_any (w : World) (p q : Option Addr) (l r t : T) (x : Int) (hl : SeqAt w p l) (hr : SeqAt w q r) (hsz : l.size + 1 + r.size ≤ 1000) (h : BalR l x r t) :
    Calls Try.prog 52 #[.pointer p, .int .i64 x, .pointer q] w (Made w t) := by
  cases h with
  | sr h s => exact bal_sr w p q _ _ _ x _ hl hr hsz h s
  | dr h s => exact bal_dr w p q _ _ _ _ x _ _ hl hr hsz h s
  | sl g h s => exact bal_sl w p q _ _ _ _ x hl hr hsz g h s
  | dl g h s => exact bal_dl w p q _ _ _ _ _ x _ hl hr hsz g h s
  | no g h => exact bal_no w p q _ _ x hl hr hsz g h
end Go.Proofs.Ytckcbfnffmohgaa
