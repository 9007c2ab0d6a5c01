/-
  Walks of seq.link, first, both, split, Of, Join, Split. Condition: the rows lie in memory as 'SeqAt' says, and have at most 1000 items together.
-/
import Derived.Test.YtckcbfnffmohgaaSpanLeastPk32
import Derived.Deep.LoopGhost
namespace Go.Proofs.Ytckcbfnffmohgaa
open Go Go.RowKit SQ
attribute [local go_sem ↓] Go.wp_at_zero Go.wp_at_succ

theorem bal_ex (l : T) (x : Int) (r : T) : ∃ t, BalR l x r t := by
  by_cases h1 : hv r l = true
  · obtain ⟨rl, rx, rr, rfl⟩ := hv_node h1
    by_cases s : sg rl rr = true
    · exact ⟨_, .sr h1 s⟩
    · have s' : sg rl rr = false := by simpa using s
      obtain ⟨a, y, b, rfl⟩ := sg_node s'
      exact ⟨_, .dr h1 s'⟩
  · have h1' : hv r l = false := by simpa using h1
    by_cases h2 : hv l r = true
    · obtain ⟨ll, lx, lr, rfl⟩ := hv_node h2
      by_cases s : sg lr ll = true
      · exact ⟨_, .sl h1' h2 s⟩
      · have s' : sg lr ll = false := by simpa using s
        obtain ⟨a, y, b, rfl⟩ := sg_node s'
        exact ⟨_, .dl h1' h2 s'⟩
    · exact ⟨_, .no h1' (by simpa using h2)⟩
theorem hv_not {a b : T} (h : hv a b = true) : hv b a = false := by
  unfold hv at *; rw [decide_eq_true_eq] at h; rw [decide_eq_false_iff_not]; omega
/-- A row is made of which R is told. -/
def MadeR (w : World) (R : T → Prop) (e : Ending) (w' : World) : Prop := ∃ t, R t ∧ Made w t e w'

set_option maxRecDepth 100000 in
set_option maxHeartbeats 1000000 in
theorem link_aux : ∀ (n : Nat) (w : World) (p q : Option Addr) (l r : T) (x : Int), l.size + r.size ≤ n → SeqAt w p l → SeqAt w q r → l.size + 1 + r.size ≤ 1000 →
    Calls Try.prog 31 #[.pointer p, .int .i64 x, .pointer q] w (MadeR w (LinkR l x r))
  | n, w, p, q, l, r, x, hn, hl, hr, hsz => by
    have HL := Lib.hid hl
    have HR := Lib.hid hr
    have hz1 : l.size ≤ 1000 := by omega
    have hz2 : r.size ≤ 1000 := by omega
    have IH : Hid (∀ m, m < n → ∀ (w : World) (p q : Option Addr) (l r : T) (x : Int), l.size + r.size ≤ m → SeqAt w p l → SeqAt w q r → l.size + 1 + r.size ≤ 1000 →
        Calls Try.prog 31 #[.pointer p, .int .i64 x, .pointer q] w (MadeR w (LinkR l x r))) := fun m _ => link_aux m
    by_cases h : hv r l = true
    · obtain ⟨rl, rx, rr, rfl⟩ := hv_node h
      have hs2 : (T.node rl rx rr).size = rl.size + 1 + rr.size := rfl
      obtain ⟨b, lp, rp, rfl, hb, c0, c1, c2, _, r1, r2⟩ := seqCells w hr
      have R1 := Lib.hid r1
      have R2 := Lib.hid r2
      have Hh := Lib.hid h
      have HZ : Hid ((T.node rl rx rr).size ≤ 1000) := hz2
      have HI : Hid (∀ W : World, SeqAt W p l → SeqAt W lp rl → Calls Try.prog 31 #[.pointer p, .int .i64 x, .pointer lp] W (MadeR W (LinkR l x rl))) :=
        fun W h1 h2 => IH.out (l.size + rl.size) (by omega) W p lp l rl x (Nat.le_refl _) h1 h2 (by omega)
      have HZ3 : Hid (l.size + 1 + rl.size + 1 + rr.size ≤ 1000) := by unfold Hid; omega
      clear hl hr h r1 r2 hn hsz hs2 hz2 IH
      go_enter Try.func31, Try.ntmps31
      go_wp2_with fail
      refine (heavy_any w _ p (.node rl rx rr) l HR.out HL.out HZ.out hz1 true Hh.out).mono ?_
      rintro e w' ⟨rfl, rfl⟩
      go_wp2_with fail
      go_region_held3 (fun w' => Ext w w' ∧ w'.cell? ⟨b, 0, none⟩ = some (.pointer lp) ∧ w'.cell? ⟨b, 1, none⟩ = some (.pointer rp) ∧ w'.cell? ⟨b, 2, none⟩ = some (.int .i64 rx))
        (exact held1 (by first | exact Ext.drew _ | exact Ext.trans (fst_ (by assumption)) (by assumption)) hb c0 c1 c2)
        (first
          | (go_at_call 31; refine (HI.out _ (HL.out.ext (fst_ (by assumption))) (R1.out.ext (fst_ (by assumption)))).mono ?_; rintro e w1 ⟨t1, hk1, p1, rfl, hs1, hx1⟩)
          | (go_at_call 52; obtain ⟨u, hu⟩ := bal_ex t1 rx rr; refine (bal_any _ p1 rp t1 rr u rx hs1 (R2.out.ext (fst_ (by assumption))) (by rw [LinkR.size hk1]; exact HZ3.out) hu).mono ?_; rintro e w2 ⟨p2, rfl, hs2, hx2⟩))
      go_wp2
      go_ret
      exact ⟨u, .r Hh.out hk1 hu, p2, rfl, by assumption, fst_ (by assumption)⟩
    · have h' : hv r l = false := by simpa using h
      clear h
      by_cases g : hv l r = true
      · obtain ⟨ll, lx, lr, rfl⟩ := hv_node g
        have hs2 : (T.node ll lx lr).size = ll.size + 1 + lr.size := rfl
        obtain ⟨b, lp, rp, rfl, hb, c0, c1, c2, _, r1, r2⟩ := seqCells w hl
        have R1 := Lib.hid r1
        have R2 := Lib.hid r2
        have Hh := Lib.hid h'
        have Hg := Lib.hid g
        have HZ : Hid ((T.node ll lx lr).size ≤ 1000) := hz1
        have HI : Hid (∀ W : World, SeqAt W rp lr → SeqAt W q r → Calls Try.prog 31 #[.pointer rp, .int .i64 x, .pointer q] W (MadeR W (LinkR lr x r))) :=
          fun W h1 h2 => IH.out (lr.size + r.size) (by omega) W rp q lr r x (Nat.le_refl _) h1 h2 (by omega)
        have HZ3 : Hid (ll.size + 1 + (lr.size + 1 + r.size) ≤ 1000) := by unfold Hid; omega
        clear hl hr h' g r1 r2 hn hsz hs2 hz1 IH
        go_enter Try.func31, Try.ntmps31
        go_wp2_with fail
        refine (heavy_any w q _ r (.node ll lx lr) HR.out HL.out hz2 HZ.out false Hh.out).mono ?_
        rintro e w' ⟨rfl, rfl⟩
        go_wp2_with fail
        refine (heavy_any w _ q (.node ll lx lr) r HL.out HR.out HZ.out hz2 true Hg.out).mono ?_
        rintro e w' ⟨rfl, rfl⟩
        go_wp2_with fail
        go_region_held3 (fun w' => Ext w w' ∧ w'.cell? ⟨b, 0, none⟩ = some (.pointer lp) ∧ w'.cell? ⟨b, 1, none⟩ = some (.pointer rp) ∧ w'.cell? ⟨b, 2, none⟩ = some (.int .i64 lx))
          (exact held1 (by first | exact Ext.drew _ | exact Ext.trans (fst_ (by assumption)) (by assumption)) hb c0 c1 c2)
          (first
            | (go_at_call 31; refine (HI.out _ (R2.out.ext (fst_ (by assumption))) (HR.out.ext (fst_ (by assumption)))).mono ?_; rintro e w1 ⟨t1, hk1, p1, rfl, hs1, hx1⟩)
            | (go_at_call 52; obtain ⟨u, hu⟩ := bal_ex ll lx t1; refine (bal_any _ lp p1 ll t1 u lx (R1.out.ext (fst_ (by assumption))) hs1 (by rw [LinkR.size hk1]; exact HZ3.out) hu).mono ?_; rintro e w2 ⟨p2, rfl, hs2, hx2⟩))
        go_wp2
        go_ret
        exact ⟨u, .l Hh.out Hg.out hk1 hu, p2, rfl, by assumption, fst_ (by assumption)⟩
      · have g' : hv l r = false := by simpa using g
        have Hh := Lib.hid h'
        have Hg := Lib.hid g'
        clear h' g g' hl hr hn hsz IH
        go_enter Try.func31, Try.ntmps31
        go_wp2_with fail
        refine (heavy_any w q p r l HR.out HL.out hz2 hz1 false Hh.out).mono ?_
        rintro e w' ⟨rfl, rfl⟩
        go_wp2_with fail
        refine (heavy_any w p q l r HL.out HR.out hz1 hz2 false Hg.out).mono ?_
        rintro e w' ⟨rfl, rfl⟩
        go_wp2_with fail
        refine (mk_any w p q l r x HL.out HR.out hz1 hz2).mono ?_
        rintro e w1 ⟨p1, rfl, hs1, hb1⟩
        go_wp2
        go_ret
        exact ⟨_, .no Hh.out Hg.out, p1, rfl, hs1, hb1⟩
theorem link_any (w : World) (p q : Option Addr) (l r : T) (x : Int) (hl : SeqAt w p l) (hr : SeqAt w q r) (hsz : l.size + 1 + r.size ≤ 1000) :
    Calls Try.prog 31 #[.pointer p, .int .i64 x, .pointer q] w (MadeR w (LinkR l x r)) := link_aux _ w p q l r x (Nat.le_refl _) hl hr hsz
end Go.Proofs.Ytckcbfnffmohgaa
