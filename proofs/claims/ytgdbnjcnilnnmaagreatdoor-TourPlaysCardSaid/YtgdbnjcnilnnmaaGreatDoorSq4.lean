/-
  Walks of seq.first, both, split, Of, Join, Split, Depth. Condition: the rows lie in memory as 'SeqAt' says, and have at most 1000 items together.
-/
import Derived.Test.YtgdbnjcnilnnmaaGreatDoorSq3
import Derived.StillTailTactics
namespace Go.Proofs.YtgdbnjcnilnnmaaGreatDoor
open Go Go.RowKit SQ
attribute [local go_sem ↓] Go.wp_at_zero Go.wp_at_succ

def FirstPost (w : World) (s : T) (e : Ending) (w' : World) : Prop := ∃ (x : Int) (t : T) (p : Option Addr), FirstR s x t ∧ e = .returned (.tuple #[.int .i64 x, .pointer p]) ∧ SeqAt w' p t ∧ Ext w w'
set_option maxRecDepth 100000 in
set_option maxHeartbeats 1000000 in
theorem first_any : ∀ (s : T) (w : World) (p : Option Addr), SeqAt w p s → 0 < s.size → s.size ≤ 900 →
    Calls Tryz.prog 134 #[.pointer p] w (FirstPost w s)
  | .nil, _, _, _, h, _ => absurd h (by simp [T.size])
  | .node .nil x r, w, p, hs, _, _ => by
    obtain ⟨b, lp, rp, rfl, hb, c0, c1, c2, _, r1, r2⟩ := seqCells w hs
    obtain rfl : lp = none := r1
    have R2 := Lib.hid r2
    clear hs r2
    go_enter Tryz.func134, Tryz.ntmps134
    go_wp2
    go_quiet (fail)
    go_wp2
    go_ret2
    exact ⟨x, r, rp, .no, rfl, R2.out.ext (Ext.drewN _ _), Ext.drewN _ _⟩
  | .node (.node ll lx lr) x r, w, p, hs, _, hsz => by
    obtain ⟨b, lp, rp, rfl, hb, c0, c1, c2, _, r1, r2⟩ := seqCells w hs
    obtain ⟨b2, lp2, rp2, hlp, _⟩ := seqCells w r1
    have h1 : (T.node (.node ll lx lr) x r).size = (T.node ll lx lr).size + 1 + r.size := rfl
    have HI := Lib.hid (first_any (.node ll lx lr) w lp r1 (by simp only [T.size]; omega) (by omega))
    have R2 := Lib.hid r2
    have HZ : Hid ((T.node ll lx lr).size + r.size ≤ 900) := by unfold Hid; omega
    clear hs r1 r2 hsz h1
    subst hlp
    go_enter Tryz.func134, Tryz.ntmps134
    go_wp2_with fail
    refine HI.out.mono ?_
    rintro e w1 ⟨y, t, p1, hf, rfl, hs1, hx⟩
    have HF := Lib.hid hf
    have HS1 := Lib.hid hs1
    have HX := Lib.hid hx
    have d2 := (hx.cell (p := ⟨b, 2, none⟩) hb).trans c2
    have d1 := (hx.cell (p := ⟨b, 1, none⟩) hb).trans c1
    have d0 := (hx.cell (p := ⟨b, 0, none⟩) hb).trans c0
    have hb1 : b < w1.heap.size := Nat.lt_of_lt_of_le hb hx.size
    obtain ⟨u, hu⟩ := bal_ex t x r
    have HU := Lib.hid hu
    have HB : Hid (∀ W, Ext w1 W → Calls Tryz.prog 108 #[.pointer p1, .int .i64 x, .pointer rp] W (Made W u)) := fun W hW =>
      bal_any W p1 rp t r u x (HS1.out.ext hW) (R2.out.ext (HX.out.trans hW)) (by have := HZ.out; have := HF.out.size; omega) HU.out
    clear hf hs1 hx hu c0 c1 c2 hb HI
    go_wp2_with fail
    go_region_held3 (fun w' => Ext w1 w' ∧ w'.cell? ⟨b, 0, none⟩ = some (.pointer (some ⟨b2, 0, none⟩)) ∧ w'.cell? ⟨b, 1, none⟩ = some (.pointer rp) ∧ w'.cell? ⟨b, 2, none⟩ = some (.int .i64 x))
      (exact held1 (by first | exact Ext.drew _ | exact Ext.trans (fst_ (by assumption)) (by assumption)) hb1 d0 d1 d2)
      (first
        | (go_at_call 108; refine (HB.out _ (fst_ (by assumption))).mono ?_; rintro e w2 ⟨p2, rfl, hs2, hx2⟩))
    go_wp2
    go_ret2
    exact ⟨y, u, p2, .go HF.out HU.out, rfl, by assumption, HX.out.trans (fst_ (by assumption))⟩

/-- A row is made of which its list is told, and that it is balanced. -/
def ListR (xs : List Int) (b : Prop) (t : T) : Prop := t.list = xs ∧ (b → Bal t)
set_option maxRecDepth 100000 in
set_option maxHeartbeats 1000000 in
theorem both_any (w : World) (p q : Option Addr) (l r : T) (hl : SeqAt w p l) (hr : SeqAt w q r) (hsz : l.size + r.size ≤ 900) :
    Calls Tryz.prog 114 #[.pointer p, .pointer q] w (MadeR w (ListR (l.list ++ r.list) (Bal l ∧ Bal r))) := by
  cases r with
  | nil =>
    obtain rfl : q = none := hr
    have HL := Lib.hid hl
    clear hl hsz
    go_enter Tryz.func114, Tryz.ntmps114
    go_wp2
    go_ret
    exact ⟨l, ⟨by simp [T.list], fun h => h.1⟩, p, rfl, HL.out, Ext.refl _⟩
  | node rl x rr =>
    have HI := Lib.hid (first_any (.node rl x rr) w q hr (by simp only [T.size]; omega) (by omega))
    obtain ⟨b2, lp2, rp2, rfl, _⟩ := seqCells w hr
    have HL := Lib.hid hl
    have HZ : Hid (l.size + (T.node rl x rr).size ≤ 900) := hsz
    clear hl hr hsz
    go_enter Tryz.func114, Tryz.ntmps114
    go_wp2_with fail
    refine HI.out.mono ?_
    rintro e w1 ⟨y, t, p1, hf, rfl, hs1, hx⟩
    have HF := Lib.hid hf
    have HX := Lib.hid hx
    have HK := Lib.hid (link_any w1 p p1 l t y (HL.out.ext hx) hs1 (by have := HZ.out; have := hf.size; omega))
    clear hf hs1 hx HI
    go_wp2_with fail
    refine HK.out.mono ?_
    rintro e w2 ⟨u, hu, p2, rfl, hs2, hx2⟩
    have HU := Lib.hid hu
    have HS2 := Lib.hid hs2
    have HX2 := Lib.hid hx2
    clear hu hs2 hx2 HK
    go_wp2
    go_ret
    exact ⟨u, ⟨by rw [HU.out.list, HF.out.list], fun h => HU.out.bal h.1 (HF.out.bal h.2)⟩, p2, rfl, HS2.out, HX.out.trans HX2.out⟩

theorem take_mid {l r : List Int} {x : Int} {i : Nat} (h : l.length < i) : (l ++ x :: r).take i = l ++ x :: r.take (i - l.length - 1) := by
  rw [List.take_append, List.take_of_length_le (by omega), show i - l.length = (i - l.length - 1) + 1 by omega, List.take_succ_cons]; simp
theorem drop_mid {l r : List Int} {x : Int} {i : Nat} (h : l.length < i) : (l ++ x :: r).drop i = r.drop (i - l.length - 1) := by
  rw [List.drop_append, List.drop_eq_nil_of_le (by omega), show i - l.length = (i - l.length - 1) + 1 by omega, List.drop_succ_cons]; simp
def SplitPost (w : World) (t : T) (i : Nat) (e : Ending) (w' : World) : Prop := ∃ (lo hi : T) (p q : Option Addr), lo.list = t.list.take i ∧ hi.list = t.list.drop i ∧ (Bal t → Bal lo ∧ Bal hi) ∧
  e = .returned (.tuple #[.pointer p, .pointer q]) ∧ SeqAt w' p lo ∧ SeqAt w' q hi ∧ Ext w w'
theorem size_of_list {t : T} {xs : List Int} (h : t.list = xs) : t.size = xs.length := by rw [← h, T.len]
set_option maxRecDepth 100000 in
set_option maxHeartbeats 1000000 in
theorem split_any : ∀ (t : T) (w : World) (p : Option Addr) (i : Nat), SeqAt w p t → t.size ≤ 900 → i ≤ t.size →
    Calls Tryz.prog 84 #[.pointer p, .int .i64 i] w (SplitPost w t i)
  | .nil, w, p, i, hs, _, hi => by
    obtain rfl : p = none := hs
    obtain rfl : i = 0 := by simpa [T.size] using hi
    clear hi
    go_enter Tryz.func84, Tryz.ntmps84
    go_wp2
    go_ret2
    exact ⟨.nil, .nil, none, none, by simp [T.list], by simp [T.list], fun _ => ⟨trivial, trivial⟩, rfl, SeqAt.nil _, SeqAt.nil _, Ext.refl _⟩
  | .node l x r, w, p, i, hs, hsz, hi => by
    obtain ⟨b, lp, rp, rfl, hb, c0, c1, c2, _, r1, r2⟩ := seqCells w hs
    have h1 : (T.node l x r).size = l.size + 1 + r.size := rfl
    rw [h1] at hsz hi
    have R1 := Lib.hid r1
    have R2 := Lib.hid r2
    have hll := T.len l
    by_cases hc : l.size < i
    · have HI := Lib.hid (split_any r w rp (i - l.size - 1) r2 (by omega) (by omega))
      have HZ : Hid (l.size + 1 + r.size ≤ 900 ∧ i ≤ l.size + 1 + r.size) := ⟨hsz, hi⟩
      have e1 : (((i - l.size - 1 : Nat)) : Int) = (i : Int) - (l.size : Int) - 1 := by omega
      rw [e1] at HI
      have z1 : (l.size : Int) < (i : Int) := by omega
      have z2 : l.size ≤ 900 := by omega
      have z3 : i ≤ 901 := by omega
      clear hs r1 r2 hsz hi h1 e1 hll hc
      go_enter Tryz.func84, Tryz.ntmps84
      go_wp2_with fail
      refine (len_any w lp l R1.out).mono ?_
      rintro e w' ⟨rfl, rfl⟩
      go_wp2_with fail
      refine HI.out.mono ?_
      rintro e w1 ⟨lo, hi, p1, q1, h1, h2, h3, rfl, hs1, hs2, hx⟩
      have H1 := Lib.hid h1
      have H2 := Lib.hid h2
      have H3 := Lib.hid h3
      have HS2 := Lib.hid hs2
      have HX := Lib.hid hx
      have d2 := (hx.cell (p := ⟨b, 2, none⟩) hb).trans c2
      have d1 := (hx.cell (p := ⟨b, 1, none⟩) hb).trans c1
      have d0 := (hx.cell (p := ⟨b, 0, none⟩) hb).trans c0
      have hb1 : b < w1.heap.size := Nat.lt_of_lt_of_le hb hx.size
      have HB : Hid (∀ W, Ext w1 W → Calls Tryz.prog 78 #[.pointer lp, .int .i64 x, .pointer p1] W (MadeR W (LinkR l x lo))) := by
        have HS1 := Lib.hid hs1
        exact fun W hW => link_any W lp p1 l lo x (R1.out.ext (HX.out.trans hW)) (HS1.out.ext hW) (by
          have hz := HZ.out
          have hlo := size_of_list H1.out
          have hr := T.len r
          simp at hlo; omega)
      clear h1 h2 h3 hs1 hs2 hx c0 c1 c2 hb HI
      go_wp2_with fail
      go_region_held3 (fun w' => Ext w1 w' ∧ w'.cell? ⟨b, 0, none⟩ = some (.pointer lp) ∧ w'.cell? ⟨b, 1, none⟩ = some (.pointer rp) ∧ w'.cell? ⟨b, 2, none⟩ = some (.int .i64 x))
        (exact held1 (by first | exact Ext.drew _ | exact Ext.trans (fst_ (by assumption)) (by assumption)) hb1 d0 d1 d2)
        (first
          | (go_at_call 78; refine (HB.out _ (fst_ (by assumption))).mono ?_; rintro e w2 ⟨u, hu, p2, rfl, hs2, hx2⟩))
      go_wp2
      go_ret2
      have hxx := fst_ (show Ext w1 w2 ∧ _ by assumption)
      refine ⟨u, hi, p2, q1, ?_, ?_, fun hb => ⟨hu.bal hb.1 (H3.out hb.2.1).1, (H3.out hb.2.1).2⟩, rfl, by assumption, HS2.out.ext hxx, HX.out.trans hxx⟩
      · rw [hu.list, H1.out]
        simp only [T.list]
        rw [take_mid (by rw [T.len]; omega), T.len]
      · rw [H2.out]
        simp only [T.list]
        rw [drop_mid (by rw [T.len]; omega), T.len]
    · have HI := Lib.hid (split_any l w lp i r1 (by omega) (by omega))
      have HZ : Hid (l.size + 1 + r.size ≤ 900 ∧ i ≤ l.size) := ⟨hsz, by omega⟩
      have z1 : ¬ (l.size : Int) < (i : Int) := by omega
      have z4 : decide (l.size < i) = false := by simp only [decide_eq_false_iff_not]; exact hc
      clear hs r1 r2 hsz hi h1 hll hc
      go_enter Tryz.func84, Tryz.ntmps84
      go_wp2_with fail
      refine (len_any w lp l R1.out).mono ?_
      rintro e w' ⟨rfl, rfl⟩
      go_wp2_with fail
      refine HI.out.mono ?_
      rintro e w1 ⟨lo, hi, p1, q1, h1, h2, h3, rfl, hs1, hs2, hx⟩
      have H1 := Lib.hid h1
      have H2 := Lib.hid h2
      have H3 := Lib.hid h3
      have HS1 := Lib.hid hs1
      have HX := Lib.hid hx
      have d2 := (hx.cell (p := ⟨b, 2, none⟩) hb).trans c2
      have d1 := (hx.cell (p := ⟨b, 1, none⟩) hb).trans c1
      have d0 := (hx.cell (p := ⟨b, 0, none⟩) hb).trans c0
      have hb1 : b < w1.heap.size := Nat.lt_of_lt_of_le hb hx.size
      have HB : Hid (∀ W, Ext w1 W → Calls Tryz.prog 78 #[.pointer q1, .int .i64 x, .pointer rp] W (MadeR W (LinkR hi x r))) := by
        have HS2 := Lib.hid hs2
        exact fun W hW => link_any W q1 rp hi r x (HS2.out.ext hW) (R2.out.ext (HX.out.trans hW)) (by
          have hz := HZ.out
          have hhi := size_of_list H2.out
          have hr := T.len l
          simp at hhi; omega)
      clear h1 h2 h3 hs1 hs2 hx c0 c1 c2 hb HI
      go_wp2_with fail
      go_region_held3 (fun w' => Ext w1 w' ∧ w'.cell? ⟨b, 0, none⟩ = some (.pointer lp) ∧ w'.cell? ⟨b, 1, none⟩ = some (.pointer rp) ∧ w'.cell? ⟨b, 2, none⟩ = some (.int .i64 x))
        (exact held1 (by first | exact Ext.drew _ | exact Ext.trans (fst_ (by assumption)) (by assumption)) hb1 d0 d1 d2)
        (first
          | (go_at_call 78; refine (HB.out _ (fst_ (by assumption))).mono ?_; rintro e w2 ⟨u, hu, p2, rfl, hs2, hx2⟩))
      go_wp2
      go_ret2
      have hxx := fst_ (show Ext w1 w2 ∧ _ by assumption)
      refine ⟨lo, u, p1, p2, ?_, ?_, fun hb => ⟨(H3.out hb.1).1, hu.bal (H3.out hb.1).2 hb.2.1⟩, rfl, HS1.out.ext hxx, by assumption, HX.out.trans hxx⟩
      · rw [H1.out]
        simp only [T.list]
        rw [List.take_append_of_le_length (by rw [T.len]; exact HZ.out.2)]
      · rw [hu.list, H2.out]
        simp only [T.list]
        rw [List.drop_append_of_le_length (by rw [T.len]; exact HZ.out.2)]
end Go.Proofs.YtgdbnjcnilnnmaaGreatDoor
