/-
  Walks of seq.first, both, split, Of, Join, Split, Depth. Condition: the rows lie in memory as 'SeqAt' says, and have at most 1000 items together.
  Walks of seq.Of, Join, Split, Depth, List. Condition: the rows lie in memory as 'SeqAt' says, and have at most 400 items each.
-/
import Derived.Test.YtckcbfnffmohgaaSpanLeastPk33
import Derived.StillTailTactics
namespace Go.Proofs.Ytckcbfnffmohgaa
open Go Go.RowKit SQ
attribute [local go_sem ↓] Go.wp_at_zero Go.wp_at_succ

def FirstPost (w : World) (s : T) (e : Ending) (w' : World) : Prop := ∃ (x : Int) (t : T) (p : Option Addr), FirstR s x t ∧ e = .returned (.tuple #[.int .i64 x, .pointer p]) ∧ SeqAt w' p t ∧ Ext w w'
set_option maxRecDepth 100000 in
set_option maxHeartbeats 1000000 in
theorem first_any : ∀ (s : T) (w : World) (p : Option Addr), SeqAt w p s → 0 < s.size → s.size ≤ 900 →
    Calls Try.prog 68 #[.pointer p] w (FirstPost w s)
  | .nil, _, _, _, h, _ => absurd h (by simp [T.size])
  | .node .nil x r, w, p, hs, _, _ => by
    obtain ⟨b, lp, rp, rfl, hb, c0, c1, c2, _, r1, r2⟩ := seqCells w hs
    obtain rfl : lp = none := r1
    have R2 := Lib.hid r2
    clear hs r2
    go_enter Try.func68, Try.ntmps68
    go_wp2
    go_quiet (fail)
    go_wp2
    go_ret2
    exact ⟨x, r, rp, .no, rfl, R2.out.ext (Ext.drewN _ _), Ext.drewN _ _⟩
  | .node (.node ll lx lr) x r, w, p, hs, _, hsz => by
    obtain ⟨b, lp, rp, rfl, hb, c0, c1, c2, _, r1, r2⟩ := seqCells w hs
    obtain ⟨b2, lp2, rp2, hlp, _⟩ := seqCells w r1
    have h1 : (T.node (.node ll lx lr) x r).size = (T.node ll lx lr).size + 1 + r.size := rfl
    have HI := Lib.hid (first_any (.node ll lx lr) w lp r1 (by simp only [T.size]; omega) (by omega))
    have R2 := Lib.hid r2
    have HZ : Hid ((T.node ll lx lr).size + r.size ≤ 900) := by unfold Hid; omega
    clear hs r1 r2 hsz h1
    subst hlp
    go_enter Try.func68, Try.ntmps68
    go_wp2_with fail
    refine HI.out.mono ?_
    rintro e w1 ⟨y, t, p1, hf, rfl, hs1, hx⟩
    have HF := Lib.hid hf
    have HS1 := Lib.hid hs1
    have HX := Lib.hid hx
    have d2 := (hx.cell (p := ⟨b, 2, none⟩) hb).trans c2
    have d1 := (hx.cell (p := ⟨b, 1, none⟩) hb).trans c1
    have d0 := (hx.cell (p := ⟨b, 0, none⟩) hb).trans c0
    have hb1 : b < w1.heap.size := Nat.lt_of_lt_of_le hb hx.size
    obtain ⟨u, hu⟩ := bal_ex t x r
    have HU := Lib.hid hu
    have HB : Hid (∀ W, Ext w1 W → Calls Try.prog 52 #[.pointer p1, .int .i64 x, .pointer rp] W (Made W u)) := fun W hW =>
      bal_any W p1 rp t r u x (HS1.out.ext hW) (R2.out.ext (HX.out.trans hW)) (by have := HZ.out; have := HF.out.size; omega) HU.out
    clear hf hs1 hx hu c0 c1 c2 hb HI
    go_wp2_with fail
    go_region_held3 (fun w' => Ext w1 w' ∧ w'.cell? ⟨b, 0, none⟩ = some (.pointer (some ⟨b2, 0, none⟩)) ∧ w'.cell? ⟨b, 1, none⟩ = some (.pointer rp) ∧ w'.cell? ⟨b, 2, none⟩ = some (.int .i64 x))
      (exact held1 (by first | exact Ext.drew _ | exact Ext.trans (fst_ (by assumption)) (by assumption)) hb1 d0 d1 d2)
      (first
        | (go_at_call 52; refine (HB.out _ (fst_ (by assumption))).mono ?_; rintro e w2 ⟨p2, rfl, hs2, hx2⟩))
    go_wp2
    go_ret2
    exact ⟨y, u, p2, .go HF.out HU.out, rfl, by assumption, HX.out.trans (fst_ (by assumption))⟩

/-- A row is made of which its list is told, and that it is balanced. -/
def ListR (xs : List Int) (b : Prop) (t : T) : Prop := t.list = xs ∧ (b → Bal t)
set_option maxRecDepth 100000 in
set_option maxHeartbeats 1000000 in
theorem both_any (w : World) (p q : Option Addr) (l r : T) (hl : SeqAt w p l) (hr : SeqAt w q r) (hsz : l.size + r.size ≤ 900) :
    Calls Try.prog 57 #[.pointer p, .pointer q] w (MadeR w (ListR (l.list ++ r.list) (Bal l ∧ Bal r))) := by
  cases r with
  | nil =>
    obtain rfl : q = none := hr
    have HL := Lib.hid hl
    clear hl hsz
    go_enter Try.func57, Try.ntmps57
    go_wp2
    go_ret
    exact ⟨l, ⟨by simp [T.list], fun h => h.1⟩, p, rfl, HL.out, Ext.refl _⟩
  | node rl x rr =>
    have HI := Lib.hid (first_any (.node rl x rr) w q hr (by simp only [T.size]; omega) (by omega))
    obtain ⟨b2, lp2, rp2, rfl, _⟩ := seqCells w hr
    have HL := Lib.hid hl
    have HZ : Hid (l.size + (T.node rl x rr).size ≤ 900) := hsz
    clear hl hr hsz
    go_enter Try.func57, Try.ntmps57
    go_wp2_with fail
    refine HI.out.mono ?_
    rintro e w1 ⟨y, t, p1, hf, rfl, hs1, hx⟩
    have HF := Lib.hid hf
    have HX := Lib.hid hx
    have HK := Lib.hid (link_any w1 p p1 l t y (HL.out.ext hx) hs1 (by have := HZ.out; have := hf.size; omega))
    clear hf hs1 hx HI
    go_wp2_with fail
    refine HK.out.mono ?_
    rintro e w2 ⟨u, hu, p2, rfl, hs2, hx2⟩
    have HU := Lib.hid hu
    have HS2 := Lib.hid hs2
    have HX2 := Lib.hid hx2
    clear hu hs2 hx2 HK
    go_wp2
    go_ret
    exact ⟨u, ⟨by rw [HU.out.list, HF.out.list], fun h => HU.out.bal h.1 (HF.out.bal h.2)⟩, p2, rfl, HS2.out, HX.out.trans HX2.out⟩

theorem take_mid {l r : List Int} {x : Int} {i : Nat} (h : l.length < i) : (l ++ x :: r).take i = l ++ x :: r.take (i - l.length - 1) := by
  rw [List.take_append, List.take_of_length_le (by omega), show i - l.length = (i - l.length - 1) + 1 by omega, List.take_succ_cons]; simp
theorem drop_mid {l r : List Int} {x : Int} {i : Nat} (h : l.length < i) : (l ++ x :: r).drop i = r.drop (i - l.length - 1) := by
  rw [List.drop_append, List.drop_eq_nil_of_le (by omega), show i - l.length = (i - l.length - 1) + 1 by omega, List.drop_succ_cons]; simp
def SplitPost (w : World) (t : T) (i : Nat) (e : Ending) (w' : World) : Prop := ∃ (lo hi : T) (p q : Option Addr), lo.list = t.list.take i ∧ hi.list = t.list.drop i ∧ (Bal t → Bal lo ∧ Bal hi) ∧
  e = .returned (.tuple #[.pointer p, .pointer q]) ∧ SeqAt w' p lo ∧ SeqAt w' q hi ∧ Ext w w'
theorem size_of_list {t : T} {xs : List Int} (h : t.list = xs) : t.size = xs.length := by rw [← h, T.len]
set_option maxRecDepth 100000 in
set_option maxHeartbeats 1000000 in
theorem split_any : ∀ (t : T) (w : World) (p : Option Addr) (i : Nat), SeqAt w p t → t.size ≤ 900 → i ≤ t.size →
    Calls Try.prog 55 #[.pointer p, .int .i64 i] w (SplitPost w t i)
  | .nil, w, p, i, hs, _, hi => by
    obtain rfl : p = none := hs
    obtain rfl : i = 0 := by simpa [T.size] using hi
    clear hi
    go_enter Try.func55, Try.ntmps55
    go_wp2
    go_ret2
    exact ⟨.nil, .nil, none, none, by simp [T.list], by simp [T.list], fun _ => ⟨trivial, trivial⟩, rfl, SeqAt.nil _, SeqAt.nil _, Ext.refl _⟩
  | .node l x r, w, p, i, hs, hsz, hi => by
    obtain ⟨b, lp, rp, rfl, hb, c0, c1, c2, _, r1, r2⟩ := seqCells w hs
    have h1 : (T.node l x r).size = l.size + 1 + r.size := rfl
    rw [h1] at hsz hi
    have R1 := Lib.hid r1
    have R2 := Lib.hid r2
    have hll := T.len l
    by_cases hc : l.size < i
    · have HI := Lib.hid (split_any r w rp (i - l.size - 1) r2 (by omega) (by omega))
      have HZ : Hid (l.size + 1 + r.size ≤ 900 ∧ i ≤ l.size + 1 + r.size) := ⟨hsz, hi⟩
      have e1 : (((i - l.size - 1 : Nat)) : Int) = (i : Int) - (l.size : Int) - 1 := by omega
      rw [e1] at HI
      have z1 : (l.size : Int) < (i : Int) := by omega
      have z2 : l.size ≤ 900 := by omega
      have z3 : i ≤ 901 := by omega
      clear hs r1 r2 hsz hi h1 e1 hll hc
      go_enter Try.func55, Try.ntmps55
      go_wp2_with fail
      refine (len_any w lp l R1.out).mono ?_
      rintro e w' ⟨rfl, rfl⟩
      go_wp2_with fail
      refine HI.out.mono ?_
      rintro e w1 ⟨lo, hi, p1, q1, h1, h2, h3, rfl, hs1, hs2, hx⟩
      have H1 := Lib.hid h1
      have H2 := Lib.hid h2
      have H3 := Lib.hid h3
      have HS2 := Lib.hid hs2
      have HX := Lib.hid hx
      have d2 := (hx.cell (p := ⟨b, 2, none⟩) hb).trans c2
      have d1 := (hx.cell (p := ⟨b, 1, none⟩) hb).trans c1
      have d0 := (hx.cell (p := ⟨b, 0, none⟩) hb).trans c0
      have hb1 : b < w1.heap.size := Nat.lt_of_lt_of_le hb hx.size
      have HB : Hid (∀ W, Ext w1 W → Calls Try.prog 31 #[.pointer lp, .int .i64 x, .pointer p1] W (MadeR W (LinkR l x lo))) := by
        have HS1 := Lib.hid hs1
        exact fun W hW => link_any W lp p1 l lo x (R1.out.ext (HX.out.trans hW)) (HS1.out.ext hW) (by
          have hz := HZ.out
          have hlo := size_of_list H1.out
          have hr := T.len r
          simp at hlo; omega)
      clear h1 h2 h3 hs1 hs2 hx c0 c1 c2 hb HI
      go_wp2_with fail
      go_region_held3 (fun w' => Ext w1 w' ∧ w'.cell? ⟨b, 0, none⟩ = some (.pointer lp) ∧ w'.cell? ⟨b, 1, none⟩ = some (.pointer rp) ∧ w'.cell? ⟨b, 2, none⟩ = some (.int .i64 x))
        (exact held1 (by first | exact Ext.drew _ | exact Ext.trans (fst_ (by assumption)) (by assumption)) hb1 d0 d1 d2)
        (first
          | (go_at_call 31; refine (HB.out _ (fst_ (by assumption))).mono ?_; rintro e w2 ⟨u, hu, p2, rfl, hs2, hx2⟩))
      go_wp2
      go_ret2
      have hxx := fst_ (show Ext w1 w2 ∧ _ by assumption)
      refine ⟨u, hi, p2, q1, ?_, ?_, fun hb => ⟨hu.bal hb.1 (H3.out hb.2.1).1, (H3.out hb.2.1).2⟩, rfl, by assumption, HS2.out.ext hxx, HX.out.trans hxx⟩
      · rw [hu.list, H1.out]
        simp only [T.list]
        rw [take_mid (by rw [T.len]; omega), T.len]
      · rw [H2.out]
        simp only [T.list]
        rw [drop_mid (by rw [T.len]; omega), T.len]
    · have HI := Lib.hid (split_any l w lp i r1 (by omega) (by omega))
      have HZ : Hid (l.size + 1 + r.size ≤ 900 ∧ i ≤ l.size) := ⟨hsz, by omega⟩
      have z1 : ¬ (l.size : Int) < (i : Int) := by omega
      have z4 : decide (l.size < i) = false := by simp only [decide_eq_false_iff_not]; exact hc
      clear hs r1 r2 hsz hi h1 hll hc
      go_enter Try.func55, Try.ntmps55
      go_wp2_with fail
      refine (len_any w lp l R1.out).mono ?_
      rintro e w' ⟨rfl, rfl⟩
      go_wp2_with fail
      refine HI.out.mono ?_
      rintro e w1 ⟨lo, hi, p1, q1, h1, h2, h3, rfl, hs1, hs2, hx⟩
      have H1 := Lib.hid h1
      have H2 := Lib.hid h2
      have H3 := Lib.hid h3
      have HS1 := Lib.hid hs1
      have HX := Lib.hid hx
      have d2 := (hx.cell (p := ⟨b, 2, none⟩) hb).trans c2
      have d1 := (hx.cell (p := ⟨b, 1, none⟩) hb).trans c1
      have d0 := (hx.cell (p := ⟨b, 0, none⟩) hb).trans c0
      have hb1 : b < w1.heap.size := Nat.lt_of_lt_of_le hb hx.size
      have HB : Hid (∀ W, Ext w1 W → Calls Try.prog 31 #[.pointer q1, .int .i64 x, .pointer rp] W (MadeR W (LinkR hi x r))) := by
        have HS2 := Lib.hid hs2
        exact fun W hW => link_any W q1 rp hi r x (HS2.out.ext hW) (R2.out.ext (HX.out.trans hW)) (by
          have hz := HZ.out
          have hhi := size_of_list H2.out
          have hr := T.len l
          simp at hhi; omega)
      clear h1 h2 h3 hs1 hs2 hx c0 c1 c2 hb HI
      go_wp2_with fail
      go_region_held3 (fun w' => Ext w1 w' ∧ w'.cell? ⟨b, 0, none⟩ = some (.pointer lp) ∧ w'.cell? ⟨b, 1, none⟩ = some (.pointer rp) ∧ w'.cell? ⟨b, 2, none⟩ = some (.int .i64 x))
        (exact held1 (by first | exact Ext.drew _ | exact Ext.trans (fst_ (by assumption)) (by assumption)) hb1 d0 d1 d2)
        (first
          | (go_at_call 31; refine (HB.out _ (fst_ (by assumption))).mono ?_; rintro e w2 ⟨u, hu, p2, rfl, hs2, hx2⟩))
      go_wp2
      go_ret2
      have hxx := fst_ (show Ext w1 w2 ∧ _ by assumption)
      refine ⟨lo, u, p1, p2, ?_, ?_, fun hb => ⟨(H3.out hb.1).1, hu.bal (H3.out hb.1).2 hb.2.1⟩, rfl, HS1.out.ext hxx, by assumption, HX.out.trans hxx⟩
      · rw [H1.out]
        simp only [T.list]
        rw [List.take_append_of_le_length (by rw [T.len]; exact HZ.out.2)]
      · rw [hu.list, H2.out]
        simp only [T.list]
        rw [List.drop_append_of_le_length (by rw [T.len]; exact HZ.out.2)]
end Go.Proofs.Ytckcbfnffmohgaa
namespace Go.Proofs.Ytckcbfnffmohgaa
open Go Go.RowKit SQ
attribute [local go_sem ↓] Go.wp_at_zero Go.wp_at_succ

theorem ret_i {a b : Int} (h : a = b) : Ending.returned (.int .i64 a) = .returned (.int .i64 b) := by rw [h]
abbrev errV (n : Int) : Value := .iface 42 (.int .i64 n)
/-- A row, or an error. -/
def RowPost (w : World) (R : T → Prop) (e : Ending) (w' : World) : Prop := ∃ (t : T) (p : Option Addr), R t ∧ e = .returned (.tuple #[.pointer p, .nilIface]) ∧ SeqAt w' p t ∧ Ext w w'
set_option maxRecDepth 100000 in
set_option maxHeartbeats 1000000 in
theorem of_no (w : World) (A : Option Addr) (n c : Nat) (h : 400 < n) :
    Calls Try.prog 17 #[.slice A n c] w fun e w' => e = .returned (.tuple #[.pointer none, errV 3]) ∧ w = w' := by
  have z : (400 : Int) < (n : Int) := by omega
  go_enter Try.func17, Try.ntmps17
  go_wp2
  go_ret2
  exact ⟨rfl, rfl⟩
set_option maxRecDepth 100000 in
set_option maxHeartbeats 1000000 in
theorem of_yes (w : World) (A : Option Addr) (n c : Nat) (xs : List Int) (hx : IntsAt w A xs) (hl : xs.length = n) (h : n ≤ 400) :
    Calls Try.prog 17 #[.slice A n c] w (RowPost w fun t => t.list = xs ∧ Bal t) := by
  have HX := Lib.hid hx
  have HL := Lib.hid hl
  have z : ¬ (400 : Int) < (n : Int) := by omega
  clear hx hl
  go_enter Try.func17, Try.ntmps17
  go_wp2
  go_loopw [4, 13] (fun s i wr => ∃ (k : Nat) (p : Option Addr), k ≤ n ∧ i = .int .i64 k ∧ s = .pointer p ∧ (∃ t, SeqAt wr p t ∧ t.list = xs.take k ∧ Bal t) ∧ Ext w wr) (fun _ i _ => n - (intOf i).toNat)
  case atStart => exact ⟨0, none, Nat.zero_le _, rfl, rfl, ⟨.nil, SeqAt.nil _, by simp [T.list], trivial⟩, Ext.refl _⟩
  case round =>
    obtain ⟨k, p, hk, rfl, rfl, ht, he⟩ := hrel
    have HT := Lib.hid ht
    have HE := Lib.hid he
    by_cases hlt : k < n
    · rcases HX.out.ext he with h0 | ⟨b, off, rfl, _, hc⟩
      · have := HL.out; subst h0; simp at this; omega
      have hkx : k < xs.length := by rw [HL.out]; exact hlt
      obtain ⟨x, hxx⟩ : ∃ x, xs[k]? = some x := ⟨_, List.getElem?_eq_getElem hkx⟩
      have c1 := hc k x hxx
      obtain ⟨t, h1, h2, h3⟩ := ht
      have HK := Lib.hid (link_any wr p none t .nil x h1 (SeqAt.nil _) (by have := size_of_list h2; simp at this; simp only [T.size]; omega))
      have H2 := Lib.hid h2
      have HXX := Lib.hid hxx
      clear hc hxx he h1 h2 hkx HT
      go_wp2_with fail
      refine HK.out.mono ?_
      rintro e w1 ⟨u, hu, p1, rfl, hs1, hx1⟩
      have HU : Hid (∃ t, SeqAt w1 p1 t ∧ t.list = xs.take (k + 1) ∧ Bal t) := ⟨u, hs1, by rw [hu.list, H2.out, take_snoc' HXX.out]; simp [T.list], hu.bal h3 trivial⟩
      have HX1 := Lib.hid (HE.out.trans hx1)
      clear hu hs1 hx1 HK
      go_wp2
      go_roundw
      case rel => exact ⟨k + 1, p1, by omega, by go_num, rfl, HU.out, HX1.out⟩
      case measure => simp [intOf]; omega
    · clear ht he
      go_wp2
      go_ret2
      obtain ⟨t, h1, h2, h3⟩ := HT.out
      exact ⟨t, p, ⟨by rw [h2, List.take_of_length_le (by rw [HL.out]; omega)], h3⟩, rfl, h1, HE.out⟩

set_option maxRecDepth 100000 in
set_option maxHeartbeats 1000000 in
theorem sjoin_no (w : World) (p q : Option Addr) (l r : T) (hl : SeqAt w p l) (hr : SeqAt w q r) (h1 : l.size ≤ 400) (h2 : r.size ≤ 400) (h : 400 < l.size + r.size) :
    Calls Try.prog 35 #[.pointer p, .pointer q] w fun e w' => e = .returned (.tuple #[.pointer none, errV 3]) ∧ w = w' := by
  have HL := Lib.hid hl
  have HR := Lib.hid hr
  have z : (400 : Int) < (l.size : Int) + (r.size : Int) := by omega
  clear hl hr
  go_enter Try.func35, Try.ntmps35
  go_wp2_with fail
  refine (len_any w p l HL.out).mono ?_
  rintro e w' ⟨rfl, rfl⟩
  go_wp2_with fail
  refine (len_any w q r HR.out).mono ?_
  rintro e w' ⟨rfl, rfl⟩
  go_wp2
  go_ret2
  exact ⟨rfl, rfl⟩
set_option maxRecDepth 100000 in
set_option maxHeartbeats 1000000 in
theorem sjoin_yes (w : World) (p q : Option Addr) (l r : T) (hl : SeqAt w p l) (hr : SeqAt w q r) (h : l.size + r.size ≤ 400) :
    Calls Try.prog 35 #[.pointer p, .pointer q] w (RowPost w (ListR (l.list ++ r.list) (Bal l ∧ Bal r))) := by
  have HL := Lib.hid hl
  have HR := Lib.hid hr
  have z : ¬ (400 : Int) < (l.size : Int) + (r.size : Int) := by omega
  clear hl hr
  go_enter Try.func35, Try.ntmps35
  go_wp2_with fail
  refine (len_any w p l HL.out).mono ?_
  rintro e w' ⟨rfl, rfl⟩
  go_wp2_with fail
  refine (len_any w q r HR.out).mono ?_
  rintro e w' ⟨rfl, rfl⟩
  go_wp2_with fail
  refine (both_any w p q l r HL.out HR.out (by omega)).mono ?_
  rintro e w1 ⟨u, hu, p1, rfl, hs1, hx1⟩
  have HU := Lib.hid hu
  have HS := Lib.hid hs1
  have HX := Lib.hid hx1
  clear hu hs1 hx1
  go_wp2
  go_ret2
  exact ⟨u, p1, HU.out, rfl, HS.out, HX.out⟩

def SplitPost3 (w : World) (t : T) (i : Nat) (e : Ending) (w' : World) : Prop := ∃ (lo hi : T) (p q : Option Addr), lo.list = t.list.take i ∧ hi.list = t.list.drop i ∧ (Bal t → Bal lo ∧ Bal hi) ∧
  e = .returned (.tuple #[.pointer p, .pointer q, .nilIface]) ∧ SeqAt w' p lo ∧ SeqAt w' q hi ∧ Ext w w'
set_option maxRecDepth 100000 in
set_option maxHeartbeats 1000000 in
theorem ssplit_no (w : World) (p : Option Addr) (t : T) (i : Int) (ht : SeqAt w p t) (hi : i < 0 ∨ (t.size : Int) < i) :
    Calls Try.prog 32 #[.pointer p, .int .i64 i] w fun e w' => e = .returned (.tuple #[.pointer none, .pointer none, errV 1]) ∧ w = w' := by
  have HT := Lib.hid ht
  clear ht
  by_cases h : i < 0
  · clear hi
    go_enter Try.func32, Try.ntmps32
    go_wp2
    go_ret3
    exact ⟨rfl, rfl⟩
  · have h2 : (t.size : Int) < i := by omega
    clear hi
    go_enter Try.func32, Try.ntmps32
    go_wp2_with fail
    refine (len_any w p t HT.out).mono ?_
    rintro e w' ⟨rfl, rfl⟩
    go_wp2
    go_ret3
    exact ⟨rfl, rfl⟩
set_option maxRecDepth 100000 in
set_option maxHeartbeats 1000000 in
theorem ssplit_yes (w : World) (p : Option Addr) (t : T) (i : Nat) (ht : SeqAt w p t) (hz : t.size ≤ 400) (hi : i ≤ t.size) :
    Calls Try.prog 32 #[.pointer p, .int .i64 i] w (SplitPost3 w t i) := by
  have HT := Lib.hid ht
  have HK := Lib.hid (split_any t w p i ht (by omega) hi)
  have z1 : ¬ (i : Int) < 0 := by omega
  have z2 : ¬ (t.size : Int) < (i : Int) := by omega
  have z3 : decide (t.size < i) = false := by simp only [decide_eq_false_iff_not]; omega
  clear ht
  go_enter Try.func32, Try.ntmps32
  go_wp2_with fail
  refine (len_any w p t HT.out).mono ?_
  rintro e w' ⟨rfl, rfl⟩
  go_wp2_with fail
  refine HK.out.mono ?_
  rintro e w1 ⟨lo, hi, p1, q1, h1, h2, h3, rfl, hs1, hs2, hx⟩
  have H : Hid (lo.list = t.list.take i ∧ hi.list = t.list.drop i ∧ (Bal t → Bal lo ∧ Bal hi) ∧ SeqAt w1 p1 lo ∧ SeqAt w1 q1 hi ∧ Ext w w1) := ⟨h1, h2, h3, hs1, hs2, hx⟩
  clear h1 h2 h3 hs1 hs2 hx HK
  go_wp2
  go_ret3
  obtain ⟨h1, h2, h3, h4, h5, h6⟩ := H.out
  exact ⟨lo, hi, p1, q1, h1, h2, h3, rfl, h4, h5, h6⟩

end Go.Proofs.Ytckcbfnffmohgaa
