/-
  Opening []Step of package footbridgelaw2 with its events, whose numbers are int's. No conditions.
  Towards DeskPlays: rows of edges that a store's doings leave as they are; the relation of the law's loop. Conditions: as each says.
  Walk of store.Format at a disk that nothing stops. Conditions: the disk lies as 'DAt' says, has 62 pages or more.
  Walk of desk.Format on a disk that nothing stops: what it leaves, what else is as it was. Condition: the disk lies as 'DAt' says.
  A desk's doings through a law, each in one word. Conditions: the desk lies as 'DskA' says.
  Any events, saved, crashed, and gone on with: the walk of DeskPlays. Conditions: the steps are read as 'GStepsAt' says; the door.
  Plain and small: a closed fact of a desk; one event alone; a row of edges that Edges has made. Conditions: as each says.
-/
import Derived.Test.YthgniehfejklhaaGreatDoorBs46
import Derived.Test.YthgniehfejklhaaGreatDoorBs25
import Derived.Test.YthgniehfejklhaaGreatDoorBs39
import Derived.Test.YthgniehfejklhaaGreatDoorBs45
import Derived.Deep.CutBlock
import Derived.Deep.DeepCutAuto
import Derived.StillTailTactics
import Derived.Deep.RegionHeld3
namespace Go.Proofs.YthgniehfejklhaaGreatDoor
open Go Go.RowKit Go.ChangeShapes Go.WideShapes
set_option linter.unusedVariables false

theorem list3G {α : Type} {l : List α} (h : l.length = 3) : ∃ a b c, l = [a, b, c] := by
  match l, h with
  | [a, b, c], _ => exact ⟨a, b, c, rfl⟩
theorem wf_int {n : Int} (h : (Lit.int .i64 n).wf = true) : -9223372036854775808 ≤ n ∧ n ≤ 9223372036854775807 := by
  simpa [Lit.wf, IntKind.min, IntKind.max, IntKind.signed, IntKind.bits] using h
def EvOne (w : World) (g o : Nat) (e : AK.Ev) : Prop := (w.cell? ⟨g, o, none⟩ = some (.int .i64 e.w) ∧ w.cell? ⟨g, o + 1, none⟩ = some (.int .i64 e.a) ∧ w.cell? ⟨g, o + 2, none⟩ = some (.int .i64 e.b)) ∧ (-9223372036854775808 ≤ e.a ∧ e.a ≤ 9223372036854775807) ∧ (-9223372036854775808 ≤ e.b ∧ e.b ≤ 9223372036854775807)
theorem open_evrow {H : Type} {enc : TypeId × Value → H} {w : World} {spare : Nat → Bool} {held : Bool} {fuel : Nat} {v : Value} {z : DataW H × List MemPlace} (h : DataW.trod enc Tryz.prog w 0 spare held fuel 52 [v] = some z) :
    ∃ (A : Option Addr) (len cap : Nat) (l : List AK.Ev), v = .slice A len cap ∧ EvRow w A l ∧ l.length = len ∧ (len ≤ cap ∧ cap ≤ maxLen) ∧ True ∧ EvIn l := by
  obtain ⟨a, len, cap, rfl⟩ : ∃ a len cap, v = .slice a len cap := by
    rcases Deep.open_slice Tryz.underlying52 h with ⟨hc, _⟩ | ⟨ad, len', cap', m', n', D, Pl, hc, _⟩
    · simp at hc; exact ⟨_, _, _, hc⟩
    · simp at hc; exact ⟨_, _, _, hc⟩
  obtain ⟨hl, hm, h0 | ⟨b, off, rfl, hlt, n, hx⟩⟩ := open_structs Tryz.underlying52 Tryz.underlying68 (show Tryz.prog.cellsOf 68 = 3 by kernel_rfl) (by decide) (show DataW.trod enc Tryz.prog w 0 spare held fuel 52 [.slice a len cap] = _ from h)
  · exact ⟨a, len, cap, [], rfl, .inl rfl, h0.symm, ⟨hl, hm⟩, trivial, fun e he => by cases he⟩
  · have each : ∀ i, i < len → ∃ q : AK.Ev, EvOne w b (off + i * 3) q := by
      intro i hi
      obtain ⟨cs, h1, h2, h3⟩ := hx i hi
      obtain ⟨c0, c1, c2, rfl⟩ := list3G h1
      obtain ⟨y0, g0⟩ := h3 0 _ rfl
      obtain ⟨y1, g1⟩ := h3 1 _ rfl
      obtain ⟨y2, g2⟩ := h3 2 _ rfl
      simp [cellsInt] at g0 g1 g2
      obtain ⟨x0, e0, _⟩ := DataW.trod_int Tryz.underlying3 g0
      obtain ⟨x1, e1, _, k1⟩ := DataW.trod_int Tryz.underlying3 g1
      obtain ⟨x2, e2, _, k2⟩ := DataW.trod_int Tryz.underlying3 g2
      simp at e0 e1 e2
      subst e0; subst e1; subst e2
      exact ⟨⟨x0, x1, x2⟩, ⟨h2 0 _ rfl, h2 1 _ rfl, h2 2 _ rfl⟩, wf_int k1, wf_int k2⟩
    obtain ⟨s, hs⟩ := Deep.choose_lt each
    refine ⟨_, len, cap, (List.range len).map s, rfl, .inr ⟨b, off, rfl, hlt, fun i e he => ?_⟩, by simp, ⟨hl, hm⟩, trivial, fun e he => ?_⟩
    · obtain ⟨hi, rfl⟩ := List.getElem?_eq_some_iff.1 he
      simp at hi ⊢
      exact (hs i hi).1
    · obtain ⟨i, hi, rfl⟩ := List.mem_map.1 he
      exact (hs i (List.mem_range.1 hi)).2
/-- A step with its events. -/
structure GSt where
  e : ESt
  EA : Option Addr
  em : Nat
  ec : Nat
  l : List AK.Ev
instance : Inhabited GSt := ⟨⟨default, none, 0, 0, []⟩⟩
structure GStAt (w : World) (g o : Nat) (s : GSt) : Prop where
  e : EStAt w g o s.e
  c4 : w.cell? ⟨g, o + 4, none⟩ = some (.slice s.EA s.em s.ec)
  ev : EvRow w s.EA s.l
  el : s.l.length = s.em
  ein : EvIn s.l
  cap : s.em ≤ s.ec ∧ s.ec ≤ maxLen
def GStepsAt (w : World) (a : Option Addr) (len : Nat) (s : Nat → GSt) : Prop := len = 0 ∨ ∃ b off, a = some ⟨b, off, none⟩ ∧ b < w.heap.size ∧ ∀ i, i < len → GStAt w b (off + i * 5) (s i)
theorem open_gsteps {H : Type} {enc : TypeId × Value → H} {w : World} {spare : Nat → Bool} {held : Bool} {a : Option Addr} {len cap : Nat} {d : DataW H} {p : List MemPlace} (h : DataW.Trod enc Tryz.prog w 0 spare held 66 (.slice a len cap) d p) : ∃ s, GStepsAt w a len s ∧ len ≤ cap ∧ cap ≤ maxLen := by
  obtain ⟨fuel, hf⟩ := h
  obtain ⟨hl, hm, h0 | ⟨b, off, rfl, hlt, n, hx⟩⟩ := open_structs Tryz.underlying66 Tryz.underlying72 (show Tryz.prog.cellsOf 72 = 5 by kernel_rfl) (by decide) (show DataW.trod enc Tryz.prog w 0 spare held fuel 66 [.slice a len cap] = _ from hf)
  · exact ⟨fun _ => default, .inl h0, hl, hm⟩
  · have each : ∀ i, i < len → ∃ q : GSt, GStAt w b (off + i * 5) q := by
      intro i hi
      obtain ⟨cs, h1, h2, h3⟩ := hx i hi
      obtain ⟨c0, c1, c2, c3, c4, rfl⟩ := list5 h1
      obtain ⟨y0, g0⟩ := h3 0 _ rfl
      obtain ⟨y1, g1⟩ := h3 1 _ rfl
      obtain ⟨y2, g2⟩ := h3 2 _ rfl
      obtain ⟨y3, g3⟩ := h3 3 _ rfl
      obtain ⟨y4, g4⟩ := h3 4 _ rfl
      have cb : Tryz.prog.cellsOf 70 = 1 := by kernel_rfl
      have ci : Tryz.prog.cellsOf 32 = 1 := by kernel_rfl
      have ce : Tryz.prog.cellsOf 52 = 1 := by kernel_rfl
      simp [cellsInt, cb, ci, ce] at g0 g1 g2 g3 g4
      obtain ⟨x0, e0, _⟩ := DataW.trod_int Tryz.underlying3 g0
      obtain ⟨x1, e1, _, k1⟩ := DataW.trod_int Tryz.underlying3 g1
      obtain ⟨A, m, c, xs, e2, hB, hxl, hmc, hcm⟩ := open_bytes2 g2
      obtain ⟨KA, km, kc, kl, e3, hK, hkl, hkc, hkm, _⟩ := open_ints1 g3
      simp at e0 e1
      subst e0; subst e1; subst e2; subst e3
      obtain ⟨EA, em, ec, l, e4, q1, q2, q3, _, q5⟩ := open_evrow g4
      subst e4
      exact ⟨⟨⟨x0, x1, A, m, c, xs, KA, km, kc, kl⟩, EA, em, ec, l⟩, ⟨⟨by simpa using h2 0 _ rfl, h2 1 _ rfl, h2 2 _ rfl, h2 3 _ rfl, ⟨_, _, _, h2 4 _ rfl⟩, hB, hxl, Nat.le_trans hmc hcm, hK, hkl, Nat.le_trans hkc hkm, in64_of k1⟩, h2 4 _ rfl, q1, q2, q5, q3⟩⟩
    obtain ⟨s, hs⟩ := Deep.choose_lt each
    exact ⟨s, .inr ⟨b, off, rfl, hlt, hs⟩, hl, hm⟩
end Go.Proofs.YthgniehfejklhaaGreatDoor
namespace Go.Proofs.YthgniehfejklhaaGreatDoor
open Go Go.RowKit SQ TR DF PD PT
set_option linter.unusedVariables false

/-- A row of edges in a block of edges. -/
def RowE (w : World) (A : Option Addr) (c : Nat) (l : List AK.Ed) : Prop := EdsAt w A l ∧ (l.length ≤ c ∧ c ≤ maxLen) ∧ (l ≠ [] → ∀ x, A = some x → ∃ cs, Blk w x.block 87 cs)
section
variable {W wr w' : World} {A : Option Addr} {c : Nat} {l : List AK.Ed}
theorem RowE.nil (w : World) : RowE w none 0 [] := ⟨.inl rfl, by simp [maxLen], fun h => absurd rfl h⟩
theorem RowE.ext (h : RowE wr A c l) (hx : Ext wr w') : RowE w' A c l := ⟨h.1.ext hx, h.2.1, fun hne x hA => by
  obtain ⟨cs, hb⟩ := h.2.2 hne x hA
  exact ⟨cs, hb.chg (Chg.of_below hx) (by have := hb.lt; omega)⟩⟩
theorem RowE.keeps (h : RowE wr A c l) (hk : Keeps wr w') : RowE w' A c l := by
  refine ⟨?_, h.2.1, fun hne x hA => ?_⟩
  · by_cases hne : l = []
    · exact .inl hne
    · rcases h.1 with h0 | ⟨b, o, rfl, hb, hc⟩
      · exact absurd h0 hne
      · obtain ⟨cs, hB⟩ := h.2.2 hne _ rfl
        have hB2 := hk.blk hB (by decide)
        refine .inr ⟨b, o, rfl, hB2.lt, fun i x hx => ?_⟩
        obtain ⟨q1, q2⟩ := hc i x hx
        exact ⟨(hB2.cell _).trans ((hB.cell _).symm.trans q1), (hB2.cell _).trans ((hB.cell _).symm.trans q2)⟩
  · obtain ⟨cs, hB⟩ := h.2.2 hne x hA
    exact ⟨cs, hk.blk hB (by decide)⟩
/-- The desk's own block has turned. -/
theorem RowE.desk {kb : Nat} {cs : Array Value} (h : RowE wr A c l) (hb : Blk wr kb 112 cs) (hc : Chg (fun k => k = kb) wr w') : RowE w' A c l := by
  have off : l ≠ [] → ∀ x, A = some x → ¬ x.block = kb := fun hne x hA e => by
    obtain ⟨cs2, hB⟩ := h.2.2 hne x hA
    exact (hB.ne_ hb (by decide)) e
  refine ⟨h.1.chg hc off, h.2.1, fun hne x hA => ?_⟩
  obtain ⟨cs2, hB⟩ := h.2.2 hne x hA
  exact ⟨cs2, hB.chg hc (off hne x hA)⟩
/-- What the law's loop holds: the desk, what is there, what is saved. -/
structure DplR (W wr : World) (gu kb n t : Nat) (A S : List AK.Ed) (At : Option Addr) (ct : Nat) (As : Option Addr) (cs : Nat) : Prop where
  dk : ∃ (d : DK.D) (gs N : Nat) (G : GrP) (f : AK.Ed → GM.St), DkS W wr d gu gs t (NT.encL n S) false kb n N G A f ∧ Good 62 d t (NT.encL n S) ∧ d.left = -1
  there : RowE wr At ct A
  saved : RowE wr As cs S
  se : DkE n S
end
end Go.Proofs.YthgniehfejklhaaGreatDoor
namespace Go.Proofs.YthgniehfejklhaaGreatDoor
open Go Go.RowKit
set_option linter.unusedVariables false

/-- The disk in Format, step by step. -/
def FmG (n : Nat) (d : DK.D) : Nat → DK.D
  | 0 => d
  | 1 => wrTo n d 0 (hbs 0 0)
  | _ => wrTo n (wrTo n d 0 (hbs 0 0)) 1 []
theorem fmg_free (n : Nat) {d : DK.D} (hd : Fre d) (k : Nat) : Fre (FmG n d k) := by
  match k with
  | 0 => exact hd
  | 1 => exact hd.wrTo _ _
  | k + 2 => exact (hd.wrTo _ _).wrTo _ _
theorem fmg_ws (n : Nat) (d : DK.D) (k : Nat) : (FmG n d k).ws.length ≤ d.ws.length + 2 := by
  match k with
  | 0 => exact Nat.le_add_right _ _
  | 1 => exact Nat.le_trans (wrTo_ws _ _ _ _) (Nat.le_succ _)
  | k + 2 => exact Nat.le_trans (wrTo_ws _ _ _ _) (Nat.succ_le_succ (wrTo_ws _ _ _ _))
theorem fmg_err0 {n : Nat} {d : DK.D} (hn : 62 ≤ n) (hd : Fre d) : wrErr n (FmG n d 0) 0 (hbs 0 0) = none := (wr_fine (n := n) (d := d) (i := 0) (b := hbs 0 0) (by omega) (by simp [hbs]) hd.stopped).1
theorem fmg_err1 {n : Nat} {d : DK.D} (hn : 62 ≤ n) (hd : Fre d) : wrErr n (FmG n d 1) 1 [] = none := (wr_fine (n := n) (d := FmG n d 1) (i := 1) (b := []) (by omega) (by simp) (fmg_free n hd 1).stopped).1
theorem fmg_good {n : Nat} {d : DK.D} (hn : 62 ≤ n) (hd : Fre d) (hl : d.now.length = n) : Good n (DK.sync (FmG n d 2)) 0 [] ∧ (DK.sync (FmG n d 2)).left = -1 := by
  have e1 := wr_fine (n := n) (d := d) (i := 0) (b := hbs 0 0) (by omega) (by simp [hbs]) hd.stopped
  have e2 := wr_fine (n := n) (d := FmG n d 1) (i := 1) (b := []) (by omega) (by simp) ((fmg_free n hd 1).stopped)
  have e3 : FmG n d 2 = DK.write (FmG n d 1) 1 [] := by
    have := e2.2
    rw [(fmg_free n hd 1).step] at this
    exact this
  have e4 : FmG n d 1 = DK.write d 0 (hbs 0 0) := by
    have := e1.2
    rw [hd.step] at this
    exact this
  have e5 : (FmG n d 2).now = (d.now.set 0 (DK.put (hbs 0 0))).set 1 (DK.put []) := by rw [e3, e4]; rfl
  refine ⟨⟨?_, (fmg_free n hd 2).2, rfl, rfl⟩, (fmg_free n hd 2).1⟩
  show GoodP n (FmG n d 2).now 0 []
  rw [e5]
  refine ⟨by simp [hl], by omega, by simp, ?_, ⟨-1, 0, .inr ⟨?_, rfl, rfl⟩, by omega⟩, fun i hi => by simp at hi⟩
  · rw [List.getElem?_set_ne (by omega), List.getElem?_set_self (by rw [hl]; omega)]; rfl
  · rw [List.getElem?_set_self (by simp [hl]; omega)]; rfl
def FmPostG (w : World) (u : Dsk) (n : Nat) (d0 : DK.D) (e : Ending) (w' : World) : Prop := ∃ u', e = .returned .nilIface ∧ DAt w' u' n (DK.sync (FmG n d0 2)) ∧ DMoved w u u' w'
def FmRG (w : World) (u : Dsk) (n : Nat) (d0 : DK.D) (k gx gb : Nat) (wr : World) : Prop := ∃ u', DAt wr u' n (FmG n d0 k) ∧ DMoved w u u' wr ∧ Blk wr gx 70 #[.slice (some ⟨gb, 0, none⟩) 7 7, .slice none 0 0] ∧ Blk wr gb 5 (DK.pgv (hbs 0 0)).toArray
set_option maxHeartbeats 1000000 in
set_option maxRecDepth 100000 in
theorem format_free (w : World) (u : Dsk) (n : Nat) (d0 : DK.D) (h : DAt w u n d0) (hn : 62 ≤ n) (hf0 : Fre d0) (hw0 : d0.ws.length ≤ 100) :
    Calls Tryz.prog 52 #[.pointer (some ⟨u.g, 0, none⟩)] w (FmPostG w u n d0) := by
  have HH := Lib.hid h
  have h1 : ¬ ((n : Int) < 62) := by omega
  clear h
  go_enter Tryz.func52, Tryz.ntmps52
  go_wp2_with fail
  refine (dpages_any w u n _ HH.out).mono ?_
  rintro e w' ⟨rfl, rfl⟩
  go_wp2_with fail
  refine (hb_any _ 0 0 (by omega) (by omega) (by omega) (by omega)).mono ?_
  rintro e w1 ⟨gb, rfl, hb, hbe, hge⟩
  have HR0 : Hid (FmRG w u n d0 0 w1.heap.size gb (w1.alloc (.cells #[.slice (some ⟨gb, 0, none⟩) 7 7, .slice none 0 0] 70))) :=
    ⟨u, (HH.out.ext hbe).ext ((Below.refl _ _).alloc (Nat.le_refl _) _), DMoved.of_ext u (Ext.trans hbe (Ext.alloc _ _)), Blk.new _ _ _, hb.alloc _⟩
  clear hb hbe hge
  go_wp2_with fail
  go_loopw [14] (fun v wr => ∃ k : Nat, k ≤ 2 ∧ v = .int .i64 k ∧ Hid (FmRG w u n d0 k w1.heap.size gb wr)) (fun v _ => 2 - (intOf v).toNat)
  case atStart => exact ⟨0, by omega, rfl, HR0⟩
  case round =>
    obtain ⟨k, hk, rfl, hR⟩ := hrel
    clear HR0
    by_cases h0 : k = 0
    · subst h0
      obtain ⟨u', hu, hm, hx, hb⟩ := hR.out
      have HU := Lib.hid hu
      have HM := Lib.hid hm
      have HB := Lib.hid hb
      have HX := Lib.hid hx
      have e0 : wr.cell? ⟨w1.heap.size, 0, none⟩ = some (.slice (some ⟨gb, 0, none⟩) 7 7) := hx.cell 0
      have HG := Lib.hid hm.1
      clear hu hm hb hx
      go_wp2_with fail
      have a1 : (FmG n d0 0).ws.length ≤ 10000 := by have := fmg_ws n d0 0; omega
      have hdw := dwrite_any wr u' n (FmG n d0 0) HU.out 0 (some ⟨gb, 0, none⟩) 7 7 (hbs 0 0) rfl a1 (bytes_blk HB.out) (by rintro _ x hx; injection hx with hx; subst hx; exact HB.out.ne_ HU.out.blk (by decide))
      rw [HG.out] at hdw
      refine hdw.mono ?_
      rintro e w2 ⟨u2, rfl, hu2, hm2⟩
      have HM2 : Hid (DMoved w u u2 w2) := HM.out.trans hm2
      rw [fmg_err0 hn hf0, optErr_none]
      have HR2 : Hid (FmRG w u n d0 1 w1.heap.size gb w2) := ⟨u2, hu2, HM2.out, HX.out.chg hm2.2.1 (HU.out.notyp HX.out (by decide)), HB.out.chg hm2.2.1 (HU.out.notyp HB.out (by decide))⟩
      clear hu2 hm2 HM2 a1 hdw HB HX HU e0
      go_wp2
      go_roundw
      case rel => exact ⟨1, by omega, by rfl, HR2⟩
      case measure => simp [intOf]
    by_cases h1 : k = 1
    · subst h1
      obtain ⟨u', hu, hm, hx, hb⟩ := hR.out
      have HU := Lib.hid hu
      have HM := Lib.hid hm
      have HB := Lib.hid hb
      have HX := Lib.hid hx
      have e0 : wr.cell? ⟨w1.heap.size, 1, none⟩ = some (.slice none 0 0) := hx.cell 1
      have HG := Lib.hid hm.1
      clear hu hm hb hx
      go_wp2_with fail
      have a1 : (FmG n d0 1).ws.length ≤ 10000 := by have := fmg_ws n d0 1; omega
      have hdw := dwrite_any wr u' n (FmG n d0 1) HU.out 1 none 0 0 [] rfl a1 (.inl rfl) (by simp)
      rw [HG.out] at hdw
      refine hdw.mono ?_
      rintro e w2 ⟨u2, rfl, hu2, hm2⟩
      have HM2 : Hid (DMoved w u u2 w2) := HM.out.trans hm2
      rw [fmg_err1 hn hf0, optErr_none]
      have HR2 : Hid (FmRG w u n d0 2 w1.heap.size gb w2) := ⟨u2, hu2, HM2.out, HX.out.chg hm2.2.1 (HU.out.notyp HX.out (by decide)), HB.out.chg hm2.2.1 (HU.out.notyp HB.out (by decide))⟩
      clear hu2 hm2 HM2 a1 hdw HB HX HU e0
      go_wp2
      go_roundw
      case rel => exact ⟨2, by omega, by rfl, HR2⟩
      case measure => simp [intOf]
    have h2 : k = 2 := by omega
    subst h2
    obtain ⟨u', hu, hm, hx, hb⟩ := hR.out
    have HU := Lib.hid hu
    have HM := Lib.hid hm
    have HG := Lib.hid hm.1
    clear hu hm hb hx h0 h1
    go_wp2_with fail
    have hdw := dsync_any wr u' n (FmG n d0 2) HU.out
    rw [HG.out] at hdw
    refine hdw.mono ?_
    rintro e w2 ⟨u2, rfl, hu2, hm2⟩
    rw [(fmg_free n hf0 2).stopped] at hu2 ⊢
    rw [(fmg_free n hf0 2).step] at hu2
    have HU2 : Hid (DAt w2 u2 n (DK.sync (FmG n d0 2))) := hu2
    have HM2 : Hid (DMoved w u u2 w2) := HM.out.trans hm2
    clear hu2 hm2 hdw
    go_wp2
    go_ret
    exact ⟨u2, rfl, HU2.out, HM2.out⟩
end Go.Proofs.YthgniehfejklhaaGreatDoor
namespace Go.Proofs.YthgniehfejklhaaGreatDoor
open Go Go.RowKit SQ TR DF PD PT
set_option linter.unusedVariables false

/-- What Format leaves: disk and store, in blocks of its own. -/
def DffPost (wr : World) (u : Dsk) (n : Nat) (e : Ending) (w' : World) : Prop :=
  e = .returned .nilIface ∧ ∃ (gs : Nat) (d : DK.D) (u' : Dsk) (v' : Value), DAt w' u' 62 d ∧ u'.g = u.g ∧ (∀ k, u'.fp k → u.fp k ∨ wr.heap.size ≤ k) ∧ SoAt w' gs u.g ((1 : Nat) : Int) v' false (NT.encL n []) ∧ wr.heap.size ≤ gs ∧ (∀ k, v'.ownBlock = some k → wr.heap.size ≤ k) ∧ Chg u.fp wr w' ∧ Good 62 d 1 (NT.encL n []) ∧ d.left = -1
set_option maxHeartbeats 4000000 in
set_option maxRecDepth 100000 in
theorem dformat_free {wr : World} {n : Nat} (u : Dsk) (d0 : DK.D) (h : DAt wr u 62 d0) (hfr : Fre d0) (hw0 : d0.ws.length ≤ 100) (hl0 : d0.now.length = 62) (hn : 1 ≤ n ∧ n ≤ 60) :
    Calls Tryz.prog 27 #[.pointer (some ⟨u.g, 0, none⟩), .int .i64 n] wr (DffPost wr u n) := by
  have HH : Hid (DAt wr u 62 d0) := h
  have HEN : Hid (Calls Tryz.prog 51 #[.int .i64 n, .slice none 0 0] wr fun e w' => ∃ A5 c5, e = .returned (.tuple #[.slice A5 2 c5, .nilIface]) ∧ BytesAt w' A5 (NT.encL n []) ∧ 2 ≤ c5 ∧ c5 ≤ maxLen ∧ (∀ x, A5 = some x → ∃ cs, Blk w' x.block 5 cs) ∧ Ext wr w') := by
    refine (encode_any wr n none 0 0 [] rfl (by omega) (.inl rfl)).mono ?_
    rintro e w5 ⟨hx5, ⟨hbad, _⟩ | ⟨_, A5, c5, rfl, hb5, hc5, hm5, hn5⟩⟩
    · exact absurd (DkE.nil hn).enc hbad
    · exact ⟨A5, c5, rfl, hb5, hc5, hm5, fun x hx => (hn5 x hx).2, hx5⟩
  have HGD : Hid (Good 62 (DK.sync (FmG 62 d0 2)) 0 [] ∧ (DK.sync (FmG 62 d0 2)).left = -1) := fmg_good (Nat.le_refl 62) hfr hl0
  obtain ⟨gu, hgu⟩ : ∃ g, u.g = g := ⟨_, rfl⟩
  have HGU := Lib.hid hgu
  rw [hgu]
  clear h hgu
  go_enter Tryz.func27, Tryz.ntmps27
  go_wp2_with fail
  refine HEN.out.mono ?_
  rintro e w1 ⟨A5, c5, rfl, hb5, hc5, hm5, hn5, hx1⟩
  have H1 : Hid (DAt w1 u 62 d0 ∧ Ext wr w1) := ⟨HH.out.ext hx1, hx1⟩
  have H5 : Hid (BytesAt w1 A5 (NT.encL n []) ∧ 2 ≤ c5 ∧ c5 ≤ maxLen ∧ ∀ x, A5 = some x → ∃ cs, Blk w1 x.block 5 cs) := ⟨hb5, hc5, hm5, hn5⟩
  have HFM := format_free w1 u 62 d0 H1.out.1 (Nat.le_refl _) hfr hw0
  rw [HGU.out] at HFM
  have HFM := Lib.hid HFM
  clear hb5 hc5 hm5 hn5 hx1 HEN
  go_wp2_with fail
  refine HFM.out.mono ?_
  rintro e w2 ⟨u2, rfl, hd2, hg2, hc2, hf2⟩
  have HC2 : Hid (Chg u.fp wr w2) := (Chg.new H1.out.2 u.fp).trans hc2 (fun _ _ h => h)
  have HF2 : Hid (∀ k, u2.fp k → u.fp k ∨ wr.heap.size ≤ k) := fun k hk => (hf2 k hk).imp id (fun q => by have := H1.out.2.size; omega)
  have H52 : Hid (BytesAt w2 A5 (NT.encL n []) ∧ ∀ x, A5 = some x → ∃ cs, Blk w2 x.block 5 cs) := by
    have off : ∀ x, A5 = some x → ¬ u.fp x.block := fun x hx => by
      obtain ⟨cs, hb⟩ := H5.out.2.2.2 x hx
      exact H1.out.1.notyp hb (by decide)
    refine ⟨H5.out.1.chg hc2 (fun _ x hx => off x hx), fun x hx => ?_⟩
    obtain ⟨cs, hb⟩ := H5.out.2.2.2 x hx
    exact ⟨cs, hb.chg hc2 (off x hx)⟩
  have hOP := open_good w2 u2 hd2 (Nat.le_refl _) HGD.out.1
  rw [hg2, HGU.out] at hOP
  have HOP := Lib.hid hOP
  have HD2 : Hid (DAt w2 u2 62 (DK.sync (FmG 62 d0 2)) ∧ u2.g = gu) := ⟨hd2, hg2.trans HGU.out⟩
  clear hd2 hg2 hc2 hf2 hOP HFM
  go_wp2_with fail
  refine HOP.out.mono ?_
  rintro e w3 ⟨gs, v3, rfl, hs3, hx3, hg3, hv3⟩
  have H53 : Hid (BytesAt w3 A5 (NT.encL n []) ∧ ∀ x, A5 = some x → ∃ cs, Blk w3 x.block 5 cs) := ⟨H52.out.1.ext hx3, fun x hx => by
    obtain ⟨cs, hb⟩ := H52.out.2 x hx
    exact ⟨cs, hb.chg (Chg.of_below hx3) (by have := hb.lt; omega)⟩⟩
  have HD3 : Hid (DAt w3 u2 62 (DK.sync (FmG 62 d0 2))) := HD2.out.1.ext hx3
  have HZ : Hid (wr.heap.size ≤ w2.heap.size ∧ w2.heap.size ≤ w3.heap.size ∧ w2.heap.size ≤ gs) := ⟨HC2.out.size, hx3.size, hg3⟩
  have HC3 : Hid (Chg u.fp wr w3) := HC2.out.trans (Chg.of_below hx3) (fun i hi q => by have := HC2.out.size; omega)
  have HSV := save_any w3 u2 62 _ HD3.out gs 0 v3 [] hs3 (by omega) A5 2 c5 (NT.encL n []) (NT.encL_len _ _) (by omega) H5.out.2.1 H5.out.2.2.1 H53.out.1 (fun _ x hx => by
    obtain ⟨cs, hb⟩ := H53.out.2 x hx
    exact ⟨HD3.out.notyp hb (by decide), hb.ne_ hs3.blk (by decide)⟩) (by rw [HGD.out.1.ws]; simp)
  have HSV := Lib.hid HSV
  clear hs3 hx3 hg3 hv3 H5 H52 H53 HOP
  go_wp2_with fail
  refine HSV.out.mono ?_
  rintro e w4 ⟨u4, v4, rfl, q1, q2, q3, q4, q5⟩
  rcases save_law (c := NT.encL n []) (Nat.le_refl 62) HGD.out.1 (by omega) (by rw [NT.encL_len]; simp) with ⟨r1, r2, r3⟩ | ⟨_, r2, _⟩
  · rw [r1] at q5 ⊢
    have HP : Hid (DffPost wr u n (.returned .nilIface) w4) := by
      refine ⟨rfl, gs, _, u4, v4, q1, q2.trans (HD2.out.2.trans HGU.out.symm), fun k hk => ?_, ?_, by have := HZ.out; omega, fun k hk => ?_, ?_, r2, r3 HGD.out.2⟩
      · rcases q4 k hk with q | q
        · exact HF2.out k q
        · right; have := HZ.out; omega
      · have := q5.1
        rw [HD2.out.2.trans HGU.out.symm] at this
        exact this
      · have := q5.2 k hk; have := HZ.out; omega
      · refine HC3.out.trans q3 (fun i hi q => ?_)
        rcases q with q | q
        · rcases HF2.out i q with q | q
          · exact q
          · omega
        · have := HZ.out; omega
    clear q1 q2 q3 q4 q5 r1 r2 r3 HSV
    go_wp2
    go_ret
    exact HP.out
  · exact absurd HGD.out.2 r2
/-- A used disk, formatted: a store through a law. -/
theorem dformat_used {W wr : World} {d : DK.D} {gu gs t n : Nat} {b : List Int} (h : SkR W 62 d gu gs t b false none wr) (hg : Good 62 d t b) (hl : d.left = -1) (hn : 1 ≤ n ∧ n ≤ 60) :
    Calls Tryz.prog 27 #[.pointer (some ⟨gu, 0, none⟩), .int .i64 n] wr (DfPost W gu n) := by
  obtain ⟨u, v, h1, h2, h3, h4, h5⟩ := h.all
  subst h2
  refine (dformat_free u d h1 ⟨hl, hg.dn⟩ (by rw [hg.ws]; simp) hg.ps.ln hn).mono ?_
  rintro e w' ⟨rfl, gs', d', u', v', q1, q2, q3, q4, q5, q6, q7, q8, q9⟩
  have hz := h.bel.size
  refine ⟨rfl, gs', d', ⟨⟨u', v', q1, q2, q4, fun k hk => ?_, fun k hk => by have := q6 k hk; omega⟩, ?_, by omega, fun _ _ h => by simp at h⟩, q8, q9⟩
  · rcases q3 k hk with q | q
    · exact h4 k q
    · omega
  · exact h.bel.trans (q7.below hz (fun k _ hk => h4 k hk))
end Go.Proofs.YthgniehfejklhaaGreatDoor
namespace Go.Proofs.YthgniehfejklhaaGreatDoor
open Go Go.RowKit SQ TR DF PD PT
set_option linter.unusedVariables false

/-- A desk: its edges A, saved S; lf: nothing stops its disk. -/
def DskA (lf : Bool) (W wr : World) (gu kb n t : Nat) (A S : List AK.Ed) : Prop :=
  ∃ (d : DK.D) (gs N : Nat) (G : GrP) (f : AK.Ed → GM.St), DkS W wr d gu gs t (NT.encL n S) false kb n N G A f ∧ Good 62 d t (NT.encL n S) ∧ (lf = true → d.left = -1) ∧ DkE n S
/-- A desk whose Save was stopped. -/
def DskB (W wr : World) (gu kb n t : Nat) (A S : List AK.Ed) : Prop :=
  ∃ (d : DK.D) (gs N : Nat) (G : GrP) (f : AK.Ed → GM.St), DkS W wr d gu gs t (NT.encL n S) true kb n N G A f ∧ (∀ keep, Good 62 (DK.crash d keep) t (NT.encL n S) ∨ Good 62 (DK.crash d keep) (t + 1) (NT.encL n A)) ∧ DkE n S
/-- A disk with a store on it, to be opened. -/
def SkA (lf : Bool) (W wr : World) (gu n t : Nat) (S : List AK.Ed) : Prop :=
  ∃ (d : DK.D) (gs t0 : Nat) (b0 : List Int) (dn : Bool), SkR W 62 d gu gs t0 b0 dn none wr ∧ Good 62 d t (NT.encL n S) ∧ (lf = true → d.left = -1) ∧ DkE n S
/-- Events of which one is wrong. -/
def FltK (n : Nat) (l : List AK.Ev) (A : List AK.Ed) (k : Nat) : Prop := (120 < l.length ∧ k = 3) ∨ (l.length ≤ 120 ∧ ∃ i V x y, DS.Okay n l A i ∧ l[i]? = some (⟨V, x, y⟩ : AK.Ev) ∧ DS.flt n (DS.run n l A i).1 V x y = k ∧ k ≠ 0)
section
variable {lf dn : Bool} {W wr w' : World} {gu kb n t k k' c : Nat} {A S : List AK.Ed} {l : List AK.Ev} {R : Option Addr}
theorem FltK.one (h : FltK n l A k) (h' : FltK n l A k') : k = k' := by
  rcases h with ⟨h1, rfl⟩ | ⟨h1, i, V, x, y, q1, q2, q3, q4⟩
  · rcases h' with ⟨_, rfl⟩ | ⟨h2, _⟩
    · rfl
    · omega
  · rcases h' with ⟨h2, _⟩ | ⟨_, i', V', x', y', r1, r2, r3, r4⟩
    · omega
    · rcases Nat.lt_trichotomy i i' with q | q | q
      · exact absurd (q3.symm.trans (r1 i _ q q2)) q4
      · subst q
        rw [q2] at r2
        injection r2 with r2
        injection r2 with e1 e2 e3
        subst e1; subst e2; subst e3
        rw [← q3, r3]
      · exact absurd (r3.symm.trans (q1 i' _ q r2)) r4
theorem FltK.no (h : FltK n l A k) (hl : l.length ≤ 120) (ho : DS.Okay n l A l.length) : False := by
  rcases h with ⟨h1, rfl⟩ | ⟨h1, i, V, x, y, q1, q2, q3, q4⟩
  · omega
  · exact q4 (q3.symm.trans (ho i _ (List.getElem?_eq_some_iff.1 q2).1 q2))
theorem DskA.moved (h : DskA lf W wr gu kb n t A S) (hx : Ext wr w') : DskA lf W w' gu kb n t A S := by
  obtain ⟨d, gs, N, G, f, h1, h2⟩ := h
  exact ⟨d, gs, N, G, f, h1.moved hx, h2⟩
theorem DskA.ext (h : DskA lf W wr gu kb n t A S) : Ext W wr := by obtain ⟨d, gs, N, G, f, h1, h2⟩ := h; exact h1.ext
theorem DskA.de (h : DskA lf W wr gu kb n t A S) : DkE n A := by obtain ⟨d, gs, N, G, f, h1, h2⟩ := h; exact h1.de
theorem DskA.se (h : DskA lf W wr gu kb n t A S) : DkE n S := by obtain ⟨d, gs, N, G, f, h1, h2, h3, h4⟩ := h; exact h4
theorem DskA.blk (h : DskA lf W wr gu kb n t A S) : ∃ cs, Blk wr kb 112 cs := by obtain ⟨d, gs, N, G, f, h1, h2⟩ := h; exact ⟨_, h1.blk⟩
theorem DskA.weak (h : DskA lf W wr gu kb n t A S) : DskA false W wr gu kb n t A S := by
  obtain ⟨d, gs, N, G, f, h1, h2, h3, h4⟩ := h
  exact ⟨d, gs, N, G, f, h1, h2, fun h => by simp at h, h4⟩
theorem SkA.ext (h : SkA lf W wr gu n t S) : Ext W wr := by obtain ⟨d, gs, t0, b0, dn, h1, h2⟩ := h; exact h1.bel
theorem SkA.moved (h : SkA lf W wr gu n t S) (hx : Ext wr w') : SkA lf W w' gu n t S := by
  obtain ⟨d, gs, t0, b0, dn, h1, h2⟩ := h
  exact ⟨d, gs, t0, b0, dn, h1.ext hx, h2⟩
theorem SkA.weak (h : SkA lf W wr gu n t S) : SkA false W wr gu n t S := by
  obtain ⟨d, gs, t0, b0, dn, h1, h2, h3, h4⟩ := h
  exact ⟨d, gs, t0, b0, dn, h1, h2, fun h => by simp at h, h4⟩
theorem DskA.sk (h : DskA lf W wr gu kb n t A S) : SkA lf W wr gu n t S := by
  obtain ⟨d, gs, N, G, f, h1, h2, h3, h4⟩ := h
  exact ⟨d, gs, t, _, false, h1.sk, h2, h3, h4⟩
/-- Formatted. -/
theorem da_fmt {e : Ending} (h : DfPost W gu n e wr) (hn : 1 ≤ n ∧ n ≤ 60) : e = .returned .nilIface ∧ SkA true W wr gu n 1 [] := by
  obtain ⟨rfl, gs, d, h1, h2, h3⟩ := h
  exact ⟨rfl, d, gs, 1, _, false, h1, h2, fun _ => h3, DkE.nil hn⟩
theorem da_format (h : DskA true W wr gu kb n t A S) {m : Nat} (hm : 1 ≤ m ∧ m ≤ 60) : Calls Tryz.prog 27 #[.pointer (some ⟨gu, 0, none⟩), .int .i64 m] wr fun e w' => e = .returned .nilIface ∧ SkA true W w' gu m 1 [] := by
  obtain ⟨d, gs, N, G, f, h1, h2, h3, h4⟩ := h
  refine (dformat_used h1.sk h2 (h3 rfl) hm).mono ?_
  intro e w' h
  exact da_fmt h hm
theorem da_open (h : SkA lf W wr gu n t S) : Calls Tryz.prog 28 #[.pointer (some ⟨gu, 0, none⟩)] wr fun e w' => ∃ kb, e = .returned (.tuple #[.pointer (some ⟨kb, 0, none⟩), .nilIface]) ∧ DskA lf W w' gu kb n t S S ∧ Ext wr w' := by
  obtain ⟨d, gs0, t0, b0, dn, h1, h2, h3, h4⟩ := h
  refine (dopen_any h1 h2 h4).mono ?_
  rintro e w' ⟨⟨kb, gs, G, f, rfl, q⟩, hx⟩
  exact ⟨kb, rfl, ⟨d, gs, _, G, f, q, h2, h3, h4⟩, hx⟩
theorem da_turn (h : DskA lf W wr gu kb n t A S) : Calls Tryz.prog 36 #[.pointer (some ⟨kb, 0, none⟩)] wr fun e w' => e = .returned (.int .i64 t) ∧ Ext wr w' := by
  obtain ⟨d, gs, N, G, f, h1, h2⟩ := h
  exact dturn_any h1
theorem da_nodes (h : DskA lf W wr gu kb n t A S) : Calls Tryz.prog 35 #[.pointer (some ⟨kb, 0, none⟩)] wr fun e w' => e = .returned (.int .i64 n) ∧ Ext wr w' := by
  obtain ⟨d, gs, N, G, f, h1, h2⟩ := h
  exact dnodes_any h1
theorem da_graph (h : DskA lf W wr gu kb n t A S) : Calls Tryz.prog 30 #[.pointer (some ⟨kb, 0, none⟩)] wr (DgPost wr n A) := by
  obtain ⟨d, gs, N, G, f, h1, h2⟩ := h
  exact dgraph_any wr kb gs n N G A f h1.blk h1.g h1.le
theorem da_save (h : DskA lf W wr gu kb n t A S) (ht : t + 1 ≤ 100) : Calls Tryz.prog 32 #[.pointer (some ⟨kb, 0, none⟩)] wr fun e w' => ((e = .returned .nilIface ∧ DskA lf W w' gu kb n (t + 1) A A) ∨ (e = .returned (derrV 8) ∧ lf = false ∧ DskB W w' gu kb n t A S)) ∧ Keeps wr w' := by
  obtain ⟨d, gs, N, G, f, h1, h2, h3, h4⟩ := h
  refine (dsave_any h1 h2 ht).mono ?_
  rintro e w' ⟨⟨d', rfl, q1, q2, q3⟩ | ⟨d', rfl, q1, q2, q3⟩, hk⟩
  · exact ⟨.inl ⟨rfl, d', gs, N, G, f, q1, q2, fun hl => q3 (h3 hl), h1.de⟩, hk⟩
  · refine ⟨.inr ⟨rfl, ?_, d', gs, N, G, f, q2, q3, h4⟩, hk⟩
    cases lf
    · rfl
    · exact absurd (h3 rfl) q1
theorem da_crash (h : DskA lf W wr gu kb n t A S) (K : Option Addr) (m k : Nat) (keep : List Int) (hk : IntsAt W K keep) (hm : keep.length = m) (hmm : m ≤ maxLen) : Calls Tryz.prog 33 #[.pointer (some ⟨gu, 0, none⟩), .slice K m k] wr fun e w' => e = .returned (.tuple #[]) ∧ SkA true W w' gu n t S ∧ Keeps wr w' := by
  obtain ⟨d, gs, N, G, f, h1, h2, h3, h4⟩ := h
  refine (sk_crash2 h1.sk K m k keep hk hm hmm).mono ?_
  rintro e w' ⟨rfl, q1, q2⟩
  exact ⟨rfl, ⟨_, gs, t, _, false, q1, h2.crash keep, fun _ => rfl, h4⟩, q2⟩
theorem db_crash (h : DskB W wr gu kb n t A S) (K : Option Addr) (m k : Nat) (keep : List Int) (hk : IntsAt W K keep) (hm : keep.length = m) (hmm : m ≤ maxLen) : Calls Tryz.prog 33 #[.pointer (some ⟨gu, 0, none⟩), .slice K m k] wr fun e w' => e = .returned (.tuple #[]) ∧ (SkA true W w' gu n t S ∨ SkA true W w' gu n (t + 1) A) ∧ Keeps wr w' := by
  obtain ⟨d, gs, N, G, f, h1, h2, h4⟩ := h
  refine (sk_crash2 h1.sk K m k keep hk hm hmm).mono ?_
  rintro e w' ⟨rfl, q1, q2⟩
  refine ⟨rfl, ?_, q2⟩
  rcases h2 keep with q | q
  · exact .inl ⟨_, gs, t, _, true, q1, q, fun _ => rfl, h4⟩
  · exact .inr ⟨_, gs, t, _, true, q1, q, fun _ => rfl, h1.de⟩
theorem db_ext (h : DskB W wr gu kb n t A S) : Ext W wr := by obtain ⟨d, gs, N, G, f, h1, h2⟩ := h; exact h1.ext
theorem db_moved (h : DskB W wr gu kb n t A S) (hx : Ext wr w') : DskB W w' gu kb n t A S := by
  obtain ⟨d, gs, N, G, f, h1, h2⟩ := h
  exact ⟨d, gs, N, G, f, h1.moved hx, h2⟩
theorem da_fail (h : DskA lf W wr gu kb n t A S) (x : Int) (hx : -9223372036854775808 ≤ x ∧ x ≤ 9223372036854775807) : Calls Tryz.prog 34 #[.pointer (some ⟨gu, 0, none⟩), .int .i64 x] wr fun e w' => e = .returned (.tuple #[]) ∧ DskA false W w' gu kb n t A S ∧ Keeps wr w' := by
  obtain ⟨d, gs, N, G, f, h1, h2, h3, h4⟩ := h
  refine (sk_fail2 h1.sk x hx).mono ?_
  rintro e w' ⟨rfl, q1, q2⟩
  exact ⟨rfl, ⟨_, gs, N, G, f, h1.store q1 q2, h2.fail x, fun h => by simp at h, h4⟩, q2⟩
/-- Events that are right, what they come to. -/
def DoneK (n : Nat) (l : List AK.Ev) (A A' : List AK.Ed) (xs : List Bool) : Prop := l.length ≤ 120 ∧ DS.Okay n l A l.length ∧ DS.run n l A l.length = (A', xs)
theorem DoneK.one {A' A2 : List AK.Ed} {xs xs2 : List Bool} (h : DoneK n l A A' xs) (h' : DoneK n l A A2 xs2) : A' = A2 ∧ xs = xs2 := by
  have := h.2.2.symm.trans h'.2.2
  injection this with h1 h2
  exact ⟨h1, h2⟩
theorem DoneK.len {A' : List AK.Ed} {xs : List Bool} (h : DoneK n l A A' xs) : xs.length ≤ 120 := by
  have h1 := DS.run_len (n := n) (l := l) (A := A) l.length
  rw [h.2.2] at h1
  exact Nat.le_trans h1 h.1
theorem FltK.no2 {A' : List AK.Ed} {xs : List Bool} (h : FltK n l A k) (h' : DoneK n l A A' xs) : False := h.no h'.1 h'.2.1
/-- What Do leaves of a desk. -/
def DaDo (lf : Bool) (W wr : World) (gu kb n t : Nat) (A S : List AK.Ed) (l : List AK.Ev) (e : Ending) (w' : World) : Prop :=
  (∃ k : Nat, FltK n l A k ∧ e = .returned (.tuple #[.slice none 0 0, errV k]) ∧ Ext wr w') ∨
  (∃ A' xs, DoneK n l A A' xs ∧ ∃ (Ao : Option Addr) (c : Nat), e = .returned (.tuple #[.slice Ao xs.length c, .nilIface]) ∧ w'.ownsRow 0 4 1 (.slice Ao xs.length c) xs.length (bolV xs) ∧ (∀ j, (Value.slice Ao xs.length c).ownBlock = some j → wr.heap.size ≤ j) ∧
    DskA lf W w' gu kb n t A' S ∧ Chg (fun k => k = kb) wr w')
theorem da_do (h : DskA lf W wr gu kb n t A S) (Ae : Option Addr) (m c : Nat) (l : List AK.Ev) (hl : l.length = m) (hE : EvRow wr Ae l) (hin : EvIn l) : Calls Tryz.prog 29 #[.pointer (some ⟨kb, 0, none⟩), .slice Ae m c] wr (DaDo lf W wr gu kb n t A S l) := by
  obtain ⟨d, gs, N, G, f, h1, h2, h3, h4⟩ := h
  refine (ddo_any wr kb gs n N G A f h1.blk h1.g h1.le Ae m c l hl hE hin).mono ?_
  rintro e w' (⟨k, hk, rfl, hx⟩ | ⟨q1, q2, Ao, co, N', G', f', rfl, q3, q4, q5, q6, q7, q8⟩)
  · exact .inl ⟨k, hk, rfl, hx⟩
  · exact .inr ⟨_, _, ⟨q1, q2, rfl⟩, Ao, co, rfl, q3, q4, ⟨d, gs, N', G', f', h1.did q5 q6 q7 q8 (run_le h1.le _ q2), h2, h3, h4⟩, q8⟩
/-- The references' Do. -/
theorem da_ref (h : RowE wr R c A) (hd : DkE n A) (Ae : Option Addr) (m ce : Nat) (l : List AK.Ev) (hl : l.length = m) (hE : EvRow wr Ae l) : Calls Tryz.prog 37 #[.int .i64 n, .slice R A.length c, .slice Ae m ce] wr fun e w' =>
    (∃ k : Nat, FltK n l A k ∧ e = .returned (.tuple #[.slice none 0 0, .slice R A.length c, .int .i64 k]) ∧ Ext wr w') ∨
    (∃ A' xs, DoneK n l A A' xs ∧ ∃ Ao co An cn, e = .returned (.tuple #[.slice Ao xs.length co, .slice An A'.length cn, .int .i64 0]) ∧ w'.ownsRow 0 4 1 (.slice Ao xs.length co) xs.length (bolV xs) ∧ RowE w' An cn A' ∧ Ext wr w') := by
  refine (rdo_any wr n R c A h.1 h.2.1 hd h.2.2 Ae m ce l hl hE).mono ?_
  rintro e w' (⟨k, hk, rfl, hx⟩ | ⟨q1, q2, Ao, co, An, cn, rfl, q3⟩)
  · exact .inl ⟨k, hk, rfl, hx⟩
  · exact .inr ⟨_, _, ⟨q1, q2, rfl⟩, Ao, co, An, cn, rfl, q3.row, ⟨q3.ed, q3.cap, q3.bk⟩, q3.ext⟩
theorem row_do {lO : Value} {q : Nat} {xs : List Bool} (h : wr.ownsRow 0 4 1 lO q (bolV xs)) (hb : ∃ cs, Blk wr kb 112 cs) (hc : Chg (fun k => k = kb) wr w') : w'.ownsRow 0 4 1 lO q (bolV xs) := by
  obtain ⟨cs, hb⟩ := hb
  have := own_ne h hb (by decide)
  exact own_chg h hc (fun k hk e => this (by rw [hk, e]))
theorem blk_do {g : Nat} {cs cs' : Array Value} {ty : TypeId} (h : Blk wr g ty cs) (hb : Blk wr kb 112 cs') (ht : ¬ ty = 112) (hc : Chg (fun k => k = kb) wr w') : Blk w' g ty cs := h.chg hc (fun e => by subst e; exact ht (blk_ty h hb))
theorem blk_ext {g : Nat} {cs : Array Value} {ty : TypeId} (h : Blk wr g ty cs) (hx : Ext wr w') : Blk w' g ty cs := h.chg (Chg.of_below hx) (by have := h.lt; omega)
end
end Go.Proofs.YthgniehfejklhaaGreatDoor
namespace Go.Proofs.YthgniehfejklhaaGreatDoor
open Go Go.RowKit SQ TR DF PD PT
set_option linter.unusedVariables false

theorem GStAt.ext {w w' : World} {g o : Nat} {s : GSt} (h : GStAt w g o s) (hg : g < w.heap.size) (hx : Ext w w') : GStAt w' g o s := by
  have hc : ∀ k v, w.cell? ⟨g, k, none⟩ = some v → w'.cell? ⟨g, k, none⟩ = some v := fun k v hv => (hx.cell (p := ⟨g, k, none⟩) hg).trans hv
  refine ⟨⟨hc _ _ h.e.c0, hc _ _ h.e.c1, hc _ _ h.e.c2, hc _ _ h.e.c3, ?_, h.e.b.ext hx, h.e.bl, h.e.bm, h.e.k.ext hx, h.e.kl, h.e.km, h.e.n64⟩, hc _ _ h.c4, h.ev.ext hx, h.el, h.ein, h.cap⟩
  obtain ⟨a, b, c, q⟩ := h.e.c4
  exact ⟨a, b, c, hc _ _ q⟩
/-- A step's cells, and what is at the ends of its rows. -/
theorem GStAt.cells {w wr : World} {g o : Nat} {s : GSt} (h : GStAt w g o s) (hg : g < w.heap.size) (hx : Ext w wr) : ∃ (q x : Int) (A : Option Addr) (m c : Nat) (KA : Option Addr) (km kc : Nat) (kl : List Int) (EA : Option Addr) (em ec : Nat) (l : List AK.Ev),
    wr.cell? ⟨g, o, none⟩ = some (.int .i64 q) ∧ wr.cell? ⟨g, o + 1, none⟩ = some (.int .i64 x) ∧ wr.cell? ⟨g, o + 2, none⟩ = some (.slice A m c) ∧ wr.cell? ⟨g, o + 3, none⟩ = some (.slice KA km kc) ∧ wr.cell? ⟨g, o + 4, none⟩ = some (.slice EA em ec) ∧
    (IntsAt w KA kl ∧ kl.length = km ∧ km ≤ maxLen) ∧ (EvRow w EA l ∧ l.length = em ∧ EvIn l) ∧ in64 x := by
  have h' := h.ext hg hx
  exact ⟨_, _, _, _, _, _, _, _, _, _, _, _, _, h'.e.c0, h'.e.c1, h'.e.c2, h'.e.c3, h'.c4, ⟨h.e.k, h.e.kl, h.e.km⟩, ⟨h.ev, h.el, h.ein⟩, h.e.n64⟩
/-- What DeskPlays' loop holds. -/
structure DpR (W wr : World) (gu kb n t : Nat) (A S : List AK.Ed) (At : Option Addr) (ct : Nat) (As : Option Addr) (cs : Nat) : Prop where
  dk : DskA true W wr gu kb n t A S
  there : RowE wr At ct A
  saved : RowE wr As cs S
theorem DpR.moved {W wr w' : World} {gu kb n t : Nat} {A S : List AK.Ed} {At : Option Addr} {ct : Nat} {As : Option Addr} {cs : Nat} (h : DpR W wr gu kb n t A S At ct As cs) (hx : Ext wr w') : DpR W w' gu kb n t A S At ct As cs := ⟨h.dk.moved hx, h.there.ext hx, h.saved.ext hx⟩
set_option maxHeartbeats 8000000 in
set_option maxRecDepth 100000 in
theorem dpk_walk (n : Int) (a1 : Option Addr) (len1 cap1 : Nat) (s1 : Nat → GSt) (w : World) (hd : Td.Door w) (hs : GStepsAt w a1 len1 s1 ∧ len1 ≤ cap1 ∧ cap1 ≤ maxLen) :
    Calls Tryz.prog 6 #[.int .i64 n, .slice a1 len1 cap1] w fun e w' => e = .returned (.bool true) ∧ Below w.heap.size w w' := by
  obtain ⟨hs, hlc, hcm⟩ := hs
  unfold maxLen at hcm
  have HSt := Lib.hid hs
  have HD : Hid (∀ W, Ext w W → Td.Door W) := fun W hW => hd.new hW
  clear hs hd
  by_cases hn : n < 1 ∨ 60 < n
  · have hf : nodesF n = 1 := by unfold nodesF; rw [if_pos hn]
    have HNF : Hid (∀ W, Calls Tryz.prog 7 #[.int .i64 n] W fun e w' => e = .returned (.int .i64 1) ∧ W = w') := fun W => by
      have := nodesFault_any W n
      rwa [hf] at this
    clear hf
    go_enter Tryz.func6, Tryz.ntmps6
    go_wp2_with fail
    refine (dnew_yes w 62 (by omega) (by omega)).mono ?_
    rintro e w1 ⟨u, rfl, hd1, hx1, hf1⟩
    have X1 : Hid (Ext w w1) := hx1
    clear hd1 hx1 hf1
    go_wp2_with fail
    refine (HNF.out w1).mono ?_
    rintro e w' ⟨rfl, rfl⟩
    go_wp2_with fail
    refine (dformat_no w1 _ n hn).mono ?_
    rintro e w2 ⟨rfl, hx2⟩
    have X2 : Hid (Ext w w2) := X1.out.trans hx2
    clear hx2 X1
    go_wp2_with fail
    refine (same_errno w2 1 1 (HD.out _ X2.out) true (by decide)).mono ?_
    rintro e w3 ⟨rfl, hx3⟩
    have X3 : Hid (Ext w w3) := X2.out.trans hx3
    clear hx3 X2
    go_wp2
    go_ret
    exact ⟨rfl, X3.out⟩
  obtain ⟨n, rfl⟩ := Int.eq_ofNat_of_zero_le (show 0 ≤ n by omega)
  have hn2 : 1 ≤ n ∧ n ≤ 60 := by omega
  have hf : nodesF n = 0 := by unfold nodesF; rw [if_neg hn]
  have HNF : Hid (∀ W, Calls Tryz.prog 7 #[.int .i64 n] W fun e w' => e = .returned (.int .i64 0) ∧ W = w') := fun W => by
    have := nodesFault_any W n
    rwa [hf] at this
  clear hf hn
  go_enter Tryz.func6, Tryz.ntmps6
  go_wp2_with fail
  refine (dnew_yes w 62 (by omega) (by omega)).mono ?_
  rintro e w1 ⟨u, rfl, hd1, hx1, hf1⟩
  have HFM := dformat_new u hd1 hx1 hf1 hn2
  obtain ⟨gu, hgu⟩ : ∃ g, u.g = g := ⟨_, rfl⟩
  rw [hgu] at HFM ⊢
  have HFM := Lib.hid HFM
  clear hd1 hx1 hf1 hgu
  go_wp2_with fail
  refine (HNF.out w1).mono ?_
  rintro e w' ⟨rfl, rfl⟩
  go_wp2_with fail
  refine HFM.out.mono ?_
  intro e w2 h2
  obtain ⟨rfl, hk2⟩ := da_fmt h2 hn2
  have H2 := Lib.hid hk2
  clear h2 hk2 HFM HNF
  go_wp2_with fail
  refine (same_nil w2 0 true (by decide)).mono ?_
  rintro e w3 ⟨rfl, hx3⟩
  have H3 := Lib.hid (H2.out.moved hx3)
  clear hx3 H2
  go_wp2_with fail
  refine (da_open H3.out).mono ?_
  rintro e w4 ⟨kb, rfl, h4, _⟩
  have H4 := Lib.hid h4
  clear h4 H3
  go_wp2_with fail
  refine (da_nodes H4.out).mono ?_
  rintro e w5 ⟨rfl, hx5⟩
  have H5 := Lib.hid (H4.out.moved hx5)
  clear hx5 H4
  go_wp2_with fail
  refine (da_turn H5.out).mono ?_
  rintro e w6 ⟨rfl, hx6⟩
  have R0 : Hid (DpR w w6 gu kb n 1 [] [] none 0 none 0) := ⟨H5.out.moved hx6, RowE.nil _, RowE.nil _⟩
  clear hx6 H5
  go_wp2
  go_loopw [9, 10, 11, 12, 13] (fun v9 v10 v11 v12 v13 wr => ∃ (i t kb : Nat) (A S : List AK.Ed) (At : Option Addr) (ct : Nat) (As : Option Addr) (cs : Nat), i ≤ len1 ∧ i ≤ 25 ∧ t ≤ i + 1 ∧ v9 = .pointer (some ⟨kb, 0, none⟩) ∧ v10 = .slice At A.length ct ∧ v11 = .slice As S.length cs ∧ v12 = .int .i64 t ∧ v13 = .int .i64 i ∧ Hid (DpR w wr gu kb n t A S At ct As cs)) (fun _ _ _ _ v13 _ => len1 - (intOf v13).toNat)
  case atStart => exact ⟨0, 1, kb, [], [], none, 0, none, 0, Nat.zero_le _, Nat.zero_le _, by omega, rfl, rfl, rfl, rfl, rfl, R0.out⟩
  case round =>
    as_aux_lemma =>
    obtain ⟨i, t, kb, A, S, At, ct, As, cs, hi, hi25, ht, rfl, rfl, rfl, rfl, rfl, HR⟩ := hrel
    clear R0
    have HXT : Hid (Ext w wr) := HR.out.dk.ext
    by_cases c0 : i < len1 ∧ i < 25
    · obtain ⟨c1, c2⟩ := c0
      rcases HSt.out with h0 | ⟨b, off, rfl, hlt, hc⟩
      · omega
      obtain ⟨q, x, bA, bm, bc, KA, km, kc, kl, EA, em, ec, l, p0, p1, p2, p3, p4, hK, hE, hx64⟩ := (hc i c1).cells hlt HXT.out
      have HK := Lib.hid hK
      have HE := Lib.hid hE
      have z0 : (0 : Int) ≤ (i : Int) := by omega
      have z1 : (i : Int) < (len1 : Int) := by omega
      have z2 : (i : Int) < 25 := by omega
      clear hc hlt hK hE hx64
      go_upto_block 2 with fail
      have BG := Lib.hid (Blk.new wr 72 #[.int .i64 q, .int .i64 x, .slice bA bm bc, .slice KA km kc, .slice EA em ec])
      have H3 := Lib.hid (HR.out.moved (Ext.alloc wr (.cells #[.int .i64 q, .int .i64 x, .slice bA bm bc, .slice KA km kc, .slice EA em ec] 72)))
      obtain ⟨gS, hGe⟩ : ∃ G, wr.heap.size = G := ⟨_, rfl⟩
      rw [hGe] at BG ⊢
      clear hGe
      generalize wr.alloc (.cells #[.int .i64 q, .int .i64 x, .slice bA bm bc, .slice KA km kc, .slice EA em ec] 72) = w3 at BG H3 ⊢
      clear HR HXT p0 p1 p2 p3 p4
      go_cut [8, 9, 10, 11, 12, 15, 16, 17, 18, 19, 20, 21, 22] from 78 to 134 (fun s8 s9 s10 s11 s12 s15 s16 s17 s18 s19 s20 s21 s22 wx => ∃ (t' kb' : Nat) (A' S' : List AK.Ed) (At' : Option Addr) (ct' : Nat) (As' : Option Addr) (cs' : Nat), t' ≤ i + 2 ∧ s9 = .pointer (some ⟨kb', 0, none⟩) ∧ s10 = .slice At' A'.length ct' ∧ s11 = .slice As' S'.length cs' ∧ s12 = .int .i64 t' ∧ Hid (DpR w wx gu kb' n t' A' S' At' ct' As' cs'))
      case first =>
        as_aux_lemma =>
        go_upto_if 78 with fail
        obtain ⟨ad, had⟩ : ∃ b : Bool, b = (q == 0 || q == 1 || q == 2 || q == 3) := ⟨_, rfl⟩
        have HAD0 := Lib.hid had
        clear had
        go_cut [78] from 78 to 82 (fun s78 wx => s78 = .bool ad ∧ wx = w3)
        case first =>
          as_aux_lemma =>
          have had := HAD0.out
          have hq : q = 0 ∨ q = 1 ∨ q = 2 ∨ q = 3 ∨ ((q == 0) = false ∧ (q == 1) = false ∧ (q == 2) = false ∧ (q == 3) = false) := by simp only [beq_eq_false_iff_ne]; omega
          rcases hq with rfl | rfl | rfl | rfl | ⟨t0, t1, t2, t3⟩
          · simp at had; subst had; go_wp2; go_meet; exact ⟨rfl, rfl⟩
          · simp at had; subst had; go_wp2; go_meet; exact ⟨rfl, rfl⟩
          · simp at had; subst had; go_wp2; go_meet; exact ⟨rfl, rfl⟩
          · simp at had; subst had; go_wp2; go_meet; exact ⟨rfl, rfl⟩
          · rw [t0, t1, t2, t3] at had
            simp at had
            subst had
            have t0' : ¬ q = 0 := by simpa using t0
            have t1' : ¬ q = 1 := by simpa using t1
            have t2' : ¬ q = 2 := by simpa using t2
            have t3' : ¬ q = 3 := by simpa using t3
            go_wp2; go_meet; exact ⟨rfl, rfl⟩
        case rest =>
          as_aux_lemma =>
          obtain ⟨rfl, hw⟩ := hcut
          have hw' := hw.symm
          subst hw'
          cases ad with
          | true =>
            clear HAD0
            have e4 : w3.cell? ⟨gS, 4, none⟩ = some (.slice EA em ec) := BG.out.cell 4
            have HEV3 : Hid (EvRow w3 EA l ∧ l.length = em ∧ EvIn l) := ⟨HE.out.1.ext H3.out.dk.ext, HE.out.2⟩
            have HRF := Lib.hid (da_ref H3.out.there H3.out.dk.de EA em ec l HEV3.out.2.1 HEV3.out.1)
            go_wp2_with fail
            refine HRF.out.mono ?_
            rintro e w4 (⟨k, hk, rfl, hx4⟩ | ⟨A', xs, hdn, Ao, co, An, cn, rfl, ho4, hR4, hx4⟩)
            · have H4 := Lib.hid (H3.out.moved hx4)
              have HEV4 : Hid (EvRow w4 EA l ∧ l.length = em ∧ EvIn l) := ⟨HEV3.out.1.ext hx4, HEV3.out.2⟩
              have BG4 := Lib.hid (blk_ext BG.out hx4)
              have e4 : w4.cell? ⟨gS, 4, none⟩ = some (.slice EA em ec) := BG4.out.cell 4
              have HFK := Lib.hid hk
              clear hk hx4 H3 HEV3 BG HRF
              go_wp2_with fail
              refine (da_do H4.out.dk EA em ec l HEV4.out.2.1 HEV4.out.1 HEV4.out.2.2).mono ?_
              rintro e w5 (⟨k', hk', rfl, hx5⟩ | ⟨A2, xs2, hdn2, _⟩)
              · obtain rfl := HFK.out.one hk'
                have H5 := Lib.hid (H4.out.moved hx5)
                clear hk' hx5 H4 HEV4 BG4 HFK
                go_wp2_with fail
                refine (same_errno w5 k k (HD.out _ H5.out.dk.ext) true (by simp)).mono ?_
                rintro e w6 ⟨rfl, hx6⟩
                have H6 := Lib.hid (H5.out.moved hx6)
                clear hx6 H5
                go_wp2_with fail
                refine (bools_any w6 none none 0 0 0 0 [] [] (.inl rfl) (.inl rfl) rfl rfl (by omega) (by omega) true (by decide)).mono ?_
                rintro e w7 ⟨rfl, hx7⟩
                have H7 := Lib.hid (H6.out.moved hx7)
                clear hx7 H6
                go_wp2
                go_meet
                exact ⟨t, kb, A, S, At, ct, As, cs, by omega, rfl, rfl, rfl, rfl, H7.out⟩
              · exact (HFK.out.no2 hdn2).elim
            · have H4 := Lib.hid (H3.out.moved hx4)
              have HEV4 : Hid (EvRow w4 EA l ∧ l.length = em ∧ EvIn l) := ⟨HEV3.out.1.ext hx4, HEV3.out.2⟩
              have BG4 := Lib.hid (blk_ext BG.out hx4)
              have e4 : w4.cell? ⟨gS, 4, none⟩ = some (.slice EA em ec) := BG4.out.cell 4
              have HDN := Lib.hid hdn
              have HO4 := Lib.hid ho4
              have HR4 := Lib.hid hR4
              have HXL := Lib.hid hdn.len
              clear hdn ho4 hR4 hx4 H3 HEV3 BG HRF
              go_wp2_with fail
              refine (da_do H4.out.dk EA em ec l HEV4.out.2.1 HEV4.out.1 HEV4.out.2.2).mono ?_
              rintro e w5 (⟨k', hk', _⟩ | ⟨A2, xs2, hdn2, Ao2, c2, rfl, ho5, _, h5, hc5⟩)
              · exact (hk'.no2 HDN.out).elim
              · obtain ⟨rfl, rfl⟩ := HDN.out.one hdn2
                obtain ⟨ks, hkb⟩ := H4.out.dk.blk
                have H5 : Hid (DpR w w5 gu kb n t A' S An cn As cs) := ⟨h5, HR4.out.desk hkb hc5, H4.out.saved.desk hkb hc5⟩
                have HB5 : Hid (BoolsAt w5 Ao xs ∧ BoolsAt w5 Ao2 xs) := ⟨(BoolsAt.of_own (row_do HO4.out ⟨_, hkb⟩ hc5)).1, (BoolsAt.of_own ho5).1⟩
                clear hkb hdn2 ho5 h5 hc5 H4 HEV4 BG4 HDN HO4 HR4
                go_wp2_with fail
                refine (same_nil w5 0 true (by decide)).mono ?_
                rintro e w6 ⟨rfl, hx6⟩
                have H6 := Lib.hid (H5.out.moved hx6)
                have HB6 : Hid (BoolsAt w6 Ao xs ∧ BoolsAt w6 Ao2 xs) := ⟨HB5.out.1.ext hx6, HB5.out.2.ext hx6⟩
                clear hx6 H5 HB5
                go_wp2_with fail
                refine (bools_any w6 Ao2 Ao xs.length xs.length c2 co xs xs HB6.out.2 HB6.out.1 rfl rfl (by have := HXL.out; omega) (by have := HXL.out; omega) true (by simp)).mono ?_
                rintro e w7 ⟨rfl, hx7⟩
                have H7 := Lib.hid (H6.out.moved hx7)
                clear hx7 H6 HB6
                go_wp2
                go_meet
                exact ⟨t, kb, A', S, An, cn, As, cs, by omega, rfl, rfl, rfl, rfl, H7.out⟩
          | false =>
            by_cases q4 : q = 4
            · subst q4
              clear HAD0
              have HSV := Lib.hid (da_save H3.out.dk (by omega))
              go_wp2_with fail
              refine HSV.out.mono ?_
              rintro e w4 ⟨⟨rfl, h4⟩ | ⟨_, hb, _⟩, hk4⟩
              · have H4 : Hid (DpR w w4 gu kb n (t + 1) A A At ct At ct) := ⟨h4, H3.out.there.keeps hk4, H3.out.there.keeps hk4⟩
                clear h4 hk4 HSV H3 BG
                go_wp2
                go_meet
                exact ⟨t + 1, kb, A, A, At, ct, At, ct, by omega, rfl, rfl, rfl, by go_num, H4.out⟩
              · cases hb
            by_cases q6 : q = 6
            · subst q6
              clear HAD0 q4
              have e3 : w3.cell? ⟨gS, 3, none⟩ = some (.slice KA km kc) := BG.out.cell 3
              have HCR := Lib.hid (da_crash H3.out.dk KA km kc kl HK.out.1 HK.out.2.1 HK.out.2.2)
              go_wp2_with fail
              refine HCR.out.mono ?_
              rintro e w4 ⟨rfl, h4, hk4⟩
              have H4 : Hid (SkA true w w4 gu n t S ∧ RowE w4 As cs S) := ⟨h4, H3.out.saved.keeps hk4⟩
              clear h4 hk4 HCR H3 BG e3
              go_wp2_with fail
              refine (da_open H4.out.1).mono ?_
              rintro e w5 ⟨kb5, rfl, h5, hx5⟩
              have H5 : Hid (DpR w w5 gu kb5 n t S S As cs As cs) := ⟨h5, H4.out.2.ext hx5, H4.out.2.ext hx5⟩
              clear h5 hx5 H4
              go_wp2
              go_meet
              exact ⟨t, kb5, S, S, As, cs, As, cs, by omega, rfl, rfl, rfl, rfl, H5.out⟩
            · have q4' : (q == 4) = false := by simpa using q4
              have q6' : (q == 6) = false := by simpa using q6
              clear HAD0
              go_wp2
              go_meet
              exact ⟨t, kb, A, S, At, ct, As, cs, by omega, rfl, rfl, rfl, rfl, H3.out⟩
      case rest =>
        as_aux_lemma =>
        obtain ⟨t', kb', A', S', At', ct', As', cs', ht', rfl, rfl, rfl, rfl, HC⟩ := hcut
        clear H3 BG
        have HGR := Lib.hid (fun W (hW : Ext wc W) => da_graph (HC.out.dk.moved hW))
        have HTH := Lib.hid HC.out.there.1
        have HDE := Lib.hid HC.out.dk.de
        have hX0 : Ext wc wc := Ext.refl _
        go_wp2_with fail
        refine (HGR.out _ hX0).mono ?_
        rintro e w4 ⟨G4, f4, rfl, h4⟩
        have hF4 : Ext wc w4 := h4.ext
        have H4 := Lib.hid h4
        clear h4
        go_wp2_with fail
        refine (gedges_any H4.out.at_.m HDE.out.ok HDE.out.up HDE.out.le).mono ?_
        rintro e w5 ⟨A5, c5, rfl, hd5, hx5, _⟩
        have hF5 : Ext wc w5 := Ext.trans hF4 hx5
        have HE5 := Lib.hid (DRow.eds hd5 rfl).1
        clear hd5 hx5
        go_wp2_with fail
        refine (sedges_any w5 A5 At' A'.length A'.length c5 ct' A' A' HE5.out (HTH.out.ext hF5) rfl rfl (by have := HDE.out.le; omega) (by have := HDE.out.le; omega) true (by simp)).mono ?_
        rintro e w6 ⟨rfl, hx6⟩
        have hF6 : Ext wc w6 := Ext.trans hF5 hx6
        clear hx6
        have H6 := Lib.hid (HC.out.moved hF6)
        clear hF4 hF5 hF6 HC HGR HTH HE5 H4
        go_wp2_with fail
        refine (da_turn H6.out.dk).mono ?_
        rintro e w7 ⟨rfl, hx7⟩
        have H7 := Lib.hid (H6.out.moved hx7)
        clear hx7 H6
        go_wp2
        go_roundw
        case rel => exact ⟨i + 1, t', kb', A', S', At', ct', As', cs', by omega, by omega, by omega, rfl, rfl, rfl, rfl, by go_num, H7.out⟩
        case measure => simp [intOf]; omega
    · have hii : (i < len1 ∧ ¬ i < 25) ∨ ¬ i < len1 := by omega
      clear c0
      rcases hii with ⟨c1, c2⟩ | c1
      all_goals
        go_wp2
        go_ret
        exact ⟨rfl, HXT.out⟩
end Go.Proofs.YthgniehfejklhaaGreatDoor
namespace Go.Proofs.YthgniehfejklhaaGreatDoor
open Go Go.RowKit SQ TR DF PD PT
set_option linter.unusedVariables false

theorem fact_done : DoneK 3 [(⟨1, 0, 1⟩ : AK.Ev), ⟨3, 1, 0⟩] [] [((0 : Int), (1 : Int))] [true] := by
  have e0 : DS.run 3 [(⟨1, 0, 1⟩ : AK.Ev), ⟨3, 1, 0⟩] [] 1 = ([((0 : Int), (1 : Int))], []) := by
    rw [DS.run_next (e := ⟨1, 0, 1⟩) rfl]
    show (DS.nxt [] 1 0 1, [] ++ DS.out1 [] ⟨1, 0, 1⟩) = _
    have h1 : DS.nxt [] 1 0 1 = [((0 : Int), (1 : Int))] := by decide
    have h2 : DS.out1 [] ⟨1, 0, 1⟩ = [] := by unfold DS.out1; rw [if_neg (by decide)]
    rw [h1, h2]; rfl
  refine ⟨by decide, fun j e hj he => ?_, ?_⟩
  · have hj2 : j = 0 ∨ j = 1 := by simp at hj; omega
    rcases hj2 with rfl | rfl
    · simp at he; subst he
      show DS.flt 3 [] 1 0 1 = 0
      decide
    · simp at he; subst he
      rw [e0]
      show DS.flt 3 [((0 : Int), (1 : Int))] 3 1 0 = 0
      decide
  · show DS.run 3 [(⟨1, 0, 1⟩ : AK.Ev), ⟨3, 1, 0⟩] [] 2 = _
    rw [DS.run_next (e := ⟨3, 1, 0⟩) rfl, e0]
    show (DS.nxt [((0 : Int), (1 : Int))] 3 1 0, [] ++ DS.out1 [((0 : Int), (1 : Int))] ⟨3, 1, 0⟩) = _
    have h1 : DS.nxt [((0 : Int), (1 : Int))] 3 1 0 = [((0 : Int), (1 : Int))] := by decide
    have h2 : DS.out1 [((0 : Int), (1 : Int))] ⟨3, 1, 0⟩ = [true] := by
      unfold DS.out1
      rw [if_pos rfl]
      have : true = DS.ansB [((0 : Int), (1 : Int))] 1 0 := DS.ansB_iff (iff_of_true rfl (DF.Cn.edge (.inr (by simp))))
      rw [← this]
    rw [h1, h2]; rfl
section
variable {n k : Nat} {e : AK.Ev} {B B' : List AK.Ed} {xs : List Bool}
theorem flt_one (h : FltK n [e] B k) : DS.flt n B e.w e.a e.b = k ∧ k ≠ 0 := by
  rcases h with ⟨h1, _⟩ | ⟨_, i, V, x, y, _, q2, q3, q4⟩
  · simp at h1
  · have hi : i = 0 := by have := (List.getElem?_eq_some_iff.1 q2).1; simpa using this
    subst hi
    simp at q2
    subst q2
    exact ⟨q3, q4⟩
theorem done_one (h : DoneK n [e] B B' xs) : DS.flt n B e.w e.a e.b = 0 ∧ B' = DS.nxt B e.w e.a e.b ∧ xs = DS.out1 B e := by
  obtain ⟨_, h1, h2⟩ := h
  have h3 := h1 0 e (by simp) rfl
  have e1 : DS.run n [e] B [e].length = (DS.nxt B e.w e.a e.b, [] ++ DS.out1 B e) := DS.run_next (i := 0) rfl
  rw [e1] at h2
  injection h2 with q1 q2
  exact ⟨h3, q1.symm, by rw [← q2, List.nil_append]⟩
end
theorem ev_new (w : World) (l : List AK.Ev) (cs : Array Value) (h : ∀ i e, l[i]? = some e → cs[i * 3]? = some (.int .i64 e.w) ∧ cs[i * 3 + 1]? = some (.int .i64 e.a) ∧ cs[i * 3 + 2]? = some (.int .i64 e.b)) : EvRow (w.alloc (.cells cs 68)) (some ⟨w.heap.size, 0, none⟩) l := by
  have hb := Blk.new w 68 cs
  refine .inr ⟨_, 0, rfl, hb.lt, fun i e he => ?_⟩
  obtain ⟨q1, q2, q3⟩ := h i e he
  refine ⟨?_, ?_, ?_⟩
  · rw [hb.cell, Nat.zero_add]; exact q1
  · rw [hb.cell, Nat.zero_add]; exact q2
  · rw [hb.cell, Nat.zero_add]; exact q3
theorem da_gedges {wr w4 : World} {G4 : GrP} {n N : Nat} {A : List AK.Ed} {f4 : AK.Ed → GM.St} (h : GcS wr w4 G4 n N A f4) (hd : DkE n A) : Calls Tryz.prog 22 #[.pointer (some ⟨G4.gb, 0, none⟩)] w4 fun e w' => ∃ A5 c5, e = .returned (.slice A5 A.length c5) ∧ RowE w' A5 c5 A ∧ Ext w4 w' := by
  refine (gedges_any h.at_.m hd.ok hd.up hd.le).mono ?_
  rintro e w5 ⟨A5, c5, rfl, hd5, hx5, _⟩
  have hed := DRow.eds hd5 rfl
  exact ⟨A5, c5, rfl, ⟨hed.1, ⟨hed.2, own_capmax (show w5.ownsRow 0 87 2 (.slice A5 A.length c5) A.length (rowsOf edC A) from hd5)⟩, fun hne x hA => own_blkB (show w5.ownsRow 0 87 2 (.slice A5 A.length c5) A.length (rowsOf edC A) from hd5) (by subst hA; rfl)⟩, hx5⟩
theorem fact_row (w : World) : EvRow (w.alloc (.cells #[.int .i64 1, .int .i64 0, .int .i64 1, .int .i64 3, .int .i64 1, .int .i64 0] 68)) (some ⟨w.heap.size, 0, none⟩) [⟨1, 0, 1⟩, ⟨3, 1, 0⟩] := ev_new w _ _ fun i e he => by
  match i, he with
  | 0, he => simp at he; subst he; exact ⟨rfl, rfl, rfl⟩
  | 1, he => simp at he; subst he; exact ⟨rfl, rfl, rfl⟩
  | k + 2, he => simp at he
theorem true_row (w : World) : BoolsAt (w.alloc (.cells #[.bool true] 4)) (some ⟨w.heap.size, 0, none⟩) [true] := by
  have hb := Blk.new w 4 #[.bool true]
  refine .inr ⟨_, 0, rfl, hb.lt, fun i v hv => ?_⟩
  match i, hv with
  | 0, hv => simp at hv; subst hv; rw [hb.cell]; rfl
  | k + 1, hv => simp at hv
/-- Do of the closed fact. -/
theorem da_fact {lf : Bool} {W w3 : World} {gu kb t : Nat} {S : List AK.Ed} (h : DskA lf W w3 gu kb 3 t [] S) : Calls Tryz.prog 29 #[.pointer (some ⟨kb, 0, none⟩), .slice (some ⟨w3.heap.size, 0, none⟩) 2 2] (w3.alloc (.cells #[.int .i64 1, .int .i64 0, .int .i64 1, .int .i64 3, .int .i64 1, .int .i64 0] 68)) fun e w' => ∃ Ao c, e = .returned (.tuple #[.slice Ao 1 c, .nilIface]) ∧ BoolsAt w' Ao [true] ∧ (∃ b, Ao = some ⟨b, 0, none⟩ ∧ w'.cell? ⟨b, 0, none⟩ = some (.bool true)) ∧ DskA lf W w' gu kb 3 t [((0 : Int), (1 : Int))] S := by
  refine (da_do (h.moved (Ext.alloc _ _)) _ 2 2 [⟨1, 0, 1⟩, ⟨3, 1, 0⟩] rfl (fact_row w3) (by intro e he; simp at he; rcases he with rfl | rfl <;> simp)).mono ?_
  rintro e w' (⟨k, hk, _⟩ | ⟨A', xs, hdn, Ao, c, rfl, ho, _, h5, _⟩)
  · exact (hk.no2 fact_done).elim
  · obtain ⟨rfl, rfl⟩ := hdn.one fact_done
    have hb := (BoolsAt.of_own ho).1
    refine ⟨Ao, c, rfl, hb, ?_, h5⟩
    obtain ⟨g, cap, hv, _⟩ := own_form ho (by decide)
    simp only [Value.slice.injEq, true_and] at hv
    obtain ⟨rfl, rfl⟩ := hv
    exact ⟨g, rfl, by have := ho.cellAt 0 (by decide); simpa [bolV] using this⟩
end Go.Proofs.YthgniehfejklhaaGreatDoor
