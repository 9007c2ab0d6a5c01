/-
  Opening []Step of package footbridgelaw2 with its events, whose numbers are int's. No conditions.
  Towards DeskPlays: rows of edges that a store's doings leave as they are; the relation of the law's loop. Conditions: as each says.
  Walk of store.Format at a disk that nothing stops. Conditions: the disk lies as 'DAt' says, has 62 pages or more.
  Walk of desk.Format on a disk that nothing stops: what it leaves, what else is as it was. Condition: the disk lies as 'DAt' says.
  A desk's doings through a law, each in one word. Conditions: the desk lies as 'DskA' says.
  Plain and small: a closed fact of a desk; one event alone; a row of edges that Edges has made. Conditions: as each says.
  The closed fact 'one', and a graph drawn of events. Conditions: the events are read as 'EvRow' says.
  What a graph answers, in plain words; edges added one behind the other. Conditions: the graph lies as 'GrI' says.
  Opening []api.Event as a row of events. No conditions.
-/
import Derived.Test.YtckcbfnffmohgaaGreatBs37
import Derived.Test.YtckcbfnffmohgaaGreatBs20
import Derived.Test.YtckcbfnffmohgaaGreatBs30
import Derived.Test.YtckcbfnffmohgaaGreatBs36
import Derived.Deep.CutBlock
import Derived.Deep.DeepCutAuto
import Derived.StillTailTactics
import Derived.Deep.RegionHeld3
namespace Go.Proofs.YtckcbfnffmohgaaGreat
open Go Go.RowKit Go.ChangeShapes Go.WideShapes
set_option linter.unusedVariables false

theorem list3G {α : Type} {l : List α} (h : l.length = 3) : ∃ a b c, l = [a, b, c] := by
  match l, h with
  | [a, b, c], _ => exact ⟨a, b, c, rfl⟩
theorem wf_int {n : Int} (h : (Lit.int .i64 n).wf = true) : -9223372036854775808 ≤ n ∧ n ≤ 9223372036854775807 := by
  simpa [Lit.wf, IntKind.min, IntKind.max, IntKind.signed, IntKind.bits] using h
def EvOne (w : World) (g o : Nat) (e : AK.Ev) : Prop := (w.cell? ⟨g, o, none⟩ = some (.int .i64 e.w) ∧ w.cell? ⟨g, o + 1, none⟩ = some (.int .i64 e.a) ∧ w.cell? ⟨g, o + 2, none⟩ = some (.int .i64 e.b)) ∧ (-9223372036854775808 ≤ e.a ∧ e.a ≤ 9223372036854775807) ∧ (-9223372036854775808 ≤ e.b ∧ e.b ≤ 9223372036854775807)
theorem open_evrow {H : Type} {enc : TypeId × Value → H} {w : World} {spare : Nat → Bool} {held : Bool} {fuel : Nat} {v : Value} {z : DataW H × List MemPlace} (h : DataW.trod enc Tryz.prog w 0 spare held fuel 38 [v] = some z) :
    ∃ (A : Option Addr) (len cap : Nat) (l : List AK.Ev), v = .slice A len cap ∧ EvRow w A l ∧ l.length = len ∧ (len ≤ cap ∧ cap ≤ maxLen) ∧ True ∧ EvIn l := by
  obtain ⟨a, len, cap, rfl⟩ : ∃ a len cap, v = .slice a len cap := by
    rcases Deep.open_slice Tryz.underlying38 h with ⟨hc, _⟩ | ⟨ad, len', cap', m', n', D, Pl, hc, _⟩
    · simp at hc; exact ⟨_, _, _, hc⟩
    · simp at hc; exact ⟨_, _, _, hc⟩
  obtain ⟨hl, hm, h0 | ⟨b, off, rfl, hlt, n, hx⟩⟩ := open_structs Tryz.underlying38 Tryz.underlying62 (show Tryz.prog.cellsOf 62 = 3 by kernel_rfl) (by decide) (show DataW.trod enc Tryz.prog w 0 spare held fuel 38 [.slice a len cap] = _ from h)
  · exact ⟨a, len, cap, [], rfl, .inl rfl, h0.symm, ⟨hl, hm⟩, trivial, fun e he => by cases he⟩
  · have each : ∀ i, i < len → ∃ q : AK.Ev, EvOne w b (off + i * 3) q := by
      intro i hi
      obtain ⟨cs, h1, h2, h3⟩ := hx i hi
      obtain ⟨c0, c1, c2, rfl⟩ := list3G h1
      obtain ⟨y0, g0⟩ := h3 0 _ rfl
      obtain ⟨y1, g1⟩ := h3 1 _ rfl
      obtain ⟨y2, g2⟩ := h3 2 _ rfl
      simp [cellsInt] at g0 g1 g2
      obtain ⟨x0, e0, _⟩ := DataW.trod_int Tryz.underlying3 g0
      obtain ⟨x1, e1, _, k1⟩ := DataW.trod_int Tryz.underlying3 g1
      obtain ⟨x2, e2, _, k2⟩ := DataW.trod_int Tryz.underlying3 g2
      simp at e0 e1 e2
      subst e0; subst e1; subst e2
      exact ⟨⟨x0, x1, x2⟩, ⟨h2 0 _ rfl, h2 1 _ rfl, h2 2 _ rfl⟩, wf_int k1, wf_int k2⟩
    obtain ⟨s, hs⟩ := Deep.choose_lt each
    refine ⟨_, len, cap, (List.range len).map s, rfl, .inr ⟨b, off, rfl, hlt, fun i e he => ?_⟩, by simp, ⟨hl, hm⟩, trivial, fun e he => ?_⟩
    · obtain ⟨hi, rfl⟩ := List.getElem?_eq_some_iff.1 he
      simp at hi ⊢
      exact (hs i hi).1
    · obtain ⟨i, hi, rfl⟩ := List.mem_map.1 he
      exact (hs i (List.mem_range.1 hi)).2
/-- A step with its events. -/
structure GSt where
  e : ESt
  EA : Option Addr
  em : Nat
  ec : Nat
  l : List AK.Ev
instance : Inhabited GSt := ⟨⟨default, none, 0, 0, []⟩⟩
structure GStAt (w : World) (g o : Nat) (s : GSt) : Prop where
  e : EStAt w g o s.e
  c4 : w.cell? ⟨g, o + 4, none⟩ = some (.slice s.EA s.em s.ec)
  ev : EvRow w s.EA s.l
  el : s.l.length = s.em
  ein : EvIn s.l
  cap : s.em ≤ s.ec ∧ s.ec ≤ maxLen
def GStepsAt (w : World) (a : Option Addr) (len : Nat) (s : Nat → GSt) : Prop := len = 0 ∨ ∃ b off, a = some ⟨b, off, none⟩ ∧ b < w.heap.size ∧ ∀ i, i < len → GStAt w b (off + i * 5) (s i)
end Go.Proofs.YtckcbfnffmohgaaGreat
namespace Go.Proofs.YtckcbfnffmohgaaGreat
open Go Go.RowKit SQ TR DF PD PT
set_option linter.unusedVariables false

/-- A row of edges in a block of edges. -/
def RowE (w : World) (A : Option Addr) (c : Nat) (l : List AK.Ed) : Prop := EdsAt w A l ∧ (l.length ≤ c ∧ c ≤ maxLen) ∧ (l ≠ [] → ∀ x, A = some x → ∃ cs, Blk w x.block 32 cs)
section
variable {W wr w' : World} {A : Option Addr} {c : Nat} {l : List AK.Ed}
theorem RowE.nil (w : World) : RowE w none 0 [] := ⟨.inl rfl, by simp [maxLen], fun h => absurd rfl h⟩
theorem RowE.ext (h : RowE wr A c l) (hx : Ext wr w') : RowE w' A c l := ⟨h.1.ext hx, h.2.1, fun hne x hA => by
  obtain ⟨cs, hb⟩ := h.2.2 hne x hA
  exact ⟨cs, hb.chg (Chg.of_below hx) (by have := hb.lt; omega)⟩⟩
theorem RowE.keeps (h : RowE wr A c l) (hk : Keeps wr w') : RowE w' A c l := by
  refine ⟨?_, h.2.1, fun hne x hA => ?_⟩
  · by_cases hne : l = []
    · exact .inl hne
    · rcases h.1 with h0 | ⟨b, o, rfl, hb, hc⟩
      · exact absurd h0 hne
      · obtain ⟨cs, hB⟩ := h.2.2 hne _ rfl
        have hB2 := hk.blk hB (by decide)
        refine .inr ⟨b, o, rfl, hB2.lt, fun i x hx => ?_⟩
        obtain ⟨q1, q2⟩ := hc i x hx
        exact ⟨(hB2.cell _).trans ((hB.cell _).symm.trans q1), (hB2.cell _).trans ((hB.cell _).symm.trans q2)⟩
  · obtain ⟨cs, hB⟩ := h.2.2 hne x hA
    exact ⟨cs, hk.blk hB (by decide)⟩
/-- The desk's own block has turned. -/
theorem RowE.desk {kb : Nat} {cs : Array Value} (h : RowE wr A c l) (hb : Blk wr kb 108 cs) (hc : Chg (fun k => k = kb) wr w') : RowE w' A c l := by
  have off : l ≠ [] → ∀ x, A = some x → ¬ x.block = kb := fun hne x hA e => by
    obtain ⟨cs2, hB⟩ := h.2.2 hne x hA
    exact (hB.ne_ hb (by decide)) e
  refine ⟨h.1.chg hc off, h.2.1, fun hne x hA => ?_⟩
  obtain ⟨cs2, hB⟩ := h.2.2 hne x hA
  exact ⟨cs2, hB.chg hc (off hne x hA)⟩
/-- What the law's loop holds: the desk, what is there, what is saved. -/
structure DplR (W wr : World) (gu kb n t : Nat) (A S : List AK.Ed) (At : Option Addr) (ct : Nat) (As : Option Addr) (cs : Nat) : Prop where
  dk : ∃ (d : DK.D) (gs N : Nat) (G : GrP) (f : AK.Ed → GM.St), DkS W wr d gu gs t (NT.encL n S) false kb n N G A f ∧ Good 62 d t (NT.encL n S) ∧ d.left = -1
  there : RowE wr At ct A
  saved : RowE wr As cs S
  se : DkE n S
end
end Go.Proofs.YtckcbfnffmohgaaGreat
namespace Go.Proofs.YtckcbfnffmohgaaGreat
open Go Go.RowKit
set_option linter.unusedVariables false

/-- The disk in Format, step by step. -/
def FmG (n : Nat) (d : DK.D) : Nat → DK.D
  | 0 => d
  | 1 => wrTo n d 0 (hbs 0 0)
  | _ => wrTo n (wrTo n d 0 (hbs 0 0)) 1 []
theorem fmg_free (n : Nat) {d : DK.D} (hd : Fre d) (k : Nat) : Fre (FmG n d k) := by
  match k with
  | 0 => exact hd
  | 1 => exact hd.wrTo _ _
  | k + 2 => exact (hd.wrTo _ _).wrTo _ _
theorem fmg_ws (n : Nat) (d : DK.D) (k : Nat) : (FmG n d k).ws.length ≤ d.ws.length + 2 := by
  match k with
  | 0 => exact Nat.le_add_right _ _
  | 1 => exact Nat.le_trans (wrTo_ws _ _ _ _) (Nat.le_succ _)
  | k + 2 => exact Nat.le_trans (wrTo_ws _ _ _ _) (Nat.succ_le_succ (wrTo_ws _ _ _ _))
theorem fmg_err0 {n : Nat} {d : DK.D} (hn : 62 ≤ n) (hd : Fre d) : wrErr n (FmG n d 0) 0 (hbs 0 0) = none := (wr_fine (n := n) (d := d) (i := 0) (b := hbs 0 0) (by omega) (by simp [hbs]) hd.stopped).1
theorem fmg_err1 {n : Nat} {d : DK.D} (hn : 62 ≤ n) (hd : Fre d) : wrErr n (FmG n d 1) 1 [] = none := (wr_fine (n := n) (d := FmG n d 1) (i := 1) (b := []) (by omega) (by simp) (fmg_free n hd 1).stopped).1
theorem fmg_good {n : Nat} {d : DK.D} (hn : 62 ≤ n) (hd : Fre d) (hl : d.now.length = n) : Good n (DK.sync (FmG n d 2)) 0 [] ∧ (DK.sync (FmG n d 2)).left = -1 := by
  have e1 := wr_fine (n := n) (d := d) (i := 0) (b := hbs 0 0) (by omega) (by simp [hbs]) hd.stopped
  have e2 := wr_fine (n := n) (d := FmG n d 1) (i := 1) (b := []) (by omega) (by simp) ((fmg_free n hd 1).stopped)
  have e3 : FmG n d 2 = DK.write (FmG n d 1) 1 [] := by
    have := e2.2
    rw [(fmg_free n hd 1).step] at this
    exact this
  have e4 : FmG n d 1 = DK.write d 0 (hbs 0 0) := by
    have := e1.2
    rw [hd.step] at this
    exact this
  have e5 : (FmG n d 2).now = (d.now.set 0 (DK.put (hbs 0 0))).set 1 (DK.put []) := by rw [e3, e4]; rfl
  refine ⟨⟨?_, (fmg_free n hd 2).2, rfl, rfl⟩, (fmg_free n hd 2).1⟩
  show GoodP n (FmG n d 2).now 0 []
  rw [e5]
  refine ⟨by simp [hl], by omega, by simp, ?_, ⟨-1, 0, .inr ⟨?_, rfl, rfl⟩, by omega⟩, fun i hi => by simp at hi⟩
  · rw [List.getElem?_set_ne (by omega), List.getElem?_set_self (by rw [hl]; omega)]; rfl
  · rw [List.getElem?_set_self (by simp [hl]; omega)]; rfl
def FmPostG (w : World) (u : Dsk) (n : Nat) (d0 : DK.D) (e : Ending) (w' : World) : Prop := ∃ u', e = .returned .nilIface ∧ DAt w' u' n (DK.sync (FmG n d0 2)) ∧ DMoved w u u' w'
def FmRG (w : World) (u : Dsk) (n : Nat) (d0 : DK.D) (k gx gb : Nat) (wr : World) : Prop := ∃ u', DAt wr u' n (FmG n d0 k) ∧ DMoved w u u' wr ∧ Blk wr gx 95 #[.slice (some ⟨gb, 0, none⟩) 7 7, .slice none 0 0] ∧ Blk wr gb 5 (DK.pgv (hbs 0 0)).toArray
set_option maxHeartbeats 1000000 in
set_option maxRecDepth 100000 in
theorem format_free (w : World) (u : Dsk) (n : Nat) (d0 : DK.D) (h : DAt w u n d0) (hn : 62 ≤ n) (hf0 : Fre d0) (hw0 : d0.ws.length ≤ 100) :
    Calls Tryz.prog 42 #[.pointer (some ⟨u.g, 0, none⟩)] w (FmPostG w u n d0) := by
  have HH := Lib.hid h
  have h1 : ¬ ((n : Int) < 62) := by omega
  clear h
  go_enter Tryz.func42, Tryz.ntmps42
  go_wp2_with fail
  refine (dpages_any w u n _ HH.out).mono ?_
  rintro e w' ⟨rfl, rfl⟩
  go_wp2_with fail
  refine (hb_any _ 0 0 (by omega) (by omega) (by omega) (by omega)).mono ?_
  rintro e w1 ⟨gb, rfl, hb, hbe, hge⟩
  have HR0 : Hid (FmRG w u n d0 0 w1.heap.size gb (w1.alloc (.cells #[.slice (some ⟨gb, 0, none⟩) 7 7, .slice none 0 0] 95))) :=
    ⟨u, (HH.out.ext hbe).ext ((Below.refl _ _).alloc (Nat.le_refl _) _), DMoved.of_ext u (Ext.trans hbe (Ext.alloc _ _)), Blk.new _ _ _, hb.alloc _⟩
  clear hb hbe hge
  go_wp2_with fail
  go_loopw [14] (fun v wr => ∃ k : Nat, k ≤ 2 ∧ v = .int .i64 k ∧ Hid (FmRG w u n d0 k w1.heap.size gb wr)) (fun v _ => 2 - (intOf v).toNat)
  case atStart => exact ⟨0, by omega, rfl, HR0⟩
  case round =>
    obtain ⟨k, hk, rfl, hR⟩ := hrel
    clear HR0
    by_cases h0 : k = 0
    · subst h0
      obtain ⟨u', hu, hm, hx, hb⟩ := hR.out
      have HU := Lib.hid hu
      have HM := Lib.hid hm
      have HB := Lib.hid hb
      have HX := Lib.hid hx
      have e0 : wr.cell? ⟨w1.heap.size, 0, none⟩ = some (.slice (some ⟨gb, 0, none⟩) 7 7) := hx.cell 0
      have HG := Lib.hid hm.1
      clear hu hm hb hx
      go_wp2_with fail
      have a1 : (FmG n d0 0).ws.length ≤ 10000 := by have := fmg_ws n d0 0; omega
      have hdw := dwrite_any wr u' n (FmG n d0 0) HU.out 0 (some ⟨gb, 0, none⟩) 7 7 (hbs 0 0) rfl a1 (bytes_blk HB.out) (by rintro _ x hx; injection hx with hx; subst hx; exact HB.out.ne_ HU.out.blk (by decide))
      rw [HG.out] at hdw
      refine hdw.mono ?_
      rintro e w2 ⟨u2, rfl, hu2, hm2⟩
      have HM2 : Hid (DMoved w u u2 w2) := HM.out.trans hm2
      rw [fmg_err0 hn hf0, optErr_none]
      have HR2 : Hid (FmRG w u n d0 1 w1.heap.size gb w2) := ⟨u2, hu2, HM2.out, HX.out.chg hm2.2.1 (HU.out.notyp HX.out (by decide)), HB.out.chg hm2.2.1 (HU.out.notyp HB.out (by decide))⟩
      clear hu2 hm2 HM2 a1 hdw HB HX HU e0
      go_wp2
      go_roundw
      case rel => exact ⟨1, by omega, by rfl, HR2⟩
      case measure => simp [intOf]
    by_cases h1 : k = 1
    · subst h1
      obtain ⟨u', hu, hm, hx, hb⟩ := hR.out
      have HU := Lib.hid hu
      have HM := Lib.hid hm
      have HB := Lib.hid hb
      have HX := Lib.hid hx
      have e0 : wr.cell? ⟨w1.heap.size, 1, none⟩ = some (.slice none 0 0) := hx.cell 1
      have HG := Lib.hid hm.1
      clear hu hm hb hx
      go_wp2_with fail
      have a1 : (FmG n d0 1).ws.length ≤ 10000 := by have := fmg_ws n d0 1; omega
      have hdw := dwrite_any wr u' n (FmG n d0 1) HU.out 1 none 0 0 [] rfl a1 (.inl rfl) (by simp)
      rw [HG.out] at hdw
      refine hdw.mono ?_
      rintro e w2 ⟨u2, rfl, hu2, hm2⟩
      have HM2 : Hid (DMoved w u u2 w2) := HM.out.trans hm2
      rw [fmg_err1 hn hf0, optErr_none]
      have HR2 : Hid (FmRG w u n d0 2 w1.heap.size gb w2) := ⟨u2, hu2, HM2.out, HX.out.chg hm2.2.1 (HU.out.notyp HX.out (by decide)), HB.out.chg hm2.2.1 (HU.out.notyp HB.out (by decide))⟩
      clear hu2 hm2 HM2 a1 hdw HB HX HU e0
      go_wp2
      go_roundw
      case rel => exact ⟨2, by omega, by rfl, HR2⟩
      case measure => simp [intOf]
    have h2 : k = 2 := by omega
    subst h2
    obtain ⟨u', hu, hm, hx, hb⟩ := hR.out
    have HU := Lib.hid hu
    have HM := Lib.hid hm
    have HG := Lib.hid hm.1
    clear hu hm hb hx h0 h1
    go_wp2_with fail
    have hdw := dsync_any wr u' n (FmG n d0 2) HU.out
    rw [HG.out] at hdw
    refine hdw.mono ?_
    rintro e w2 ⟨u2, rfl, hu2, hm2⟩
    rw [(fmg_free n hf0 2).stopped] at hu2 ⊢
    rw [(fmg_free n hf0 2).step] at hu2
    have HU2 : Hid (DAt w2 u2 n (DK.sync (FmG n d0 2))) := hu2
    have HM2 : Hid (DMoved w u u2 w2) := HM.out.trans hm2
    clear hu2 hm2 hdw
    go_wp2
    go_ret
    exact ⟨u2, rfl, HU2.out, HM2.out⟩
end Go.Proofs.YtckcbfnffmohgaaGreat
namespace Go.Proofs.YtckcbfnffmohgaaGreat
open Go Go.RowKit SQ TR DF PD PT
set_option linter.unusedVariables false

/-- What Format leaves: disk and store, in blocks of its own. -/
def DffPost (wr : World) (u : Dsk) (n : Nat) (e : Ending) (w' : World) : Prop :=
  e = .returned .nilIface ∧ ∃ (gs : Nat) (d : DK.D) (u' : Dsk) (v' : Value), DAt w' u' 62 d ∧ u'.g = u.g ∧ (∀ k, u'.fp k → u.fp k ∨ wr.heap.size ≤ k) ∧ SoAt w' gs u.g ((1 : Nat) : Int) v' false (NT.encL n []) ∧ wr.heap.size ≤ gs ∧ (∀ k, v'.ownBlock = some k → wr.heap.size ≤ k) ∧ Chg u.fp wr w' ∧ Good 62 d 1 (NT.encL n []) ∧ d.left = -1
set_option maxHeartbeats 4000000 in
set_option maxRecDepth 100000 in
theorem dformat_free {wr : World} {n : Nat} (u : Dsk) (d0 : DK.D) (h : DAt wr u 62 d0) (hfr : Fre d0) (hw0 : d0.ws.length ≤ 100) (hl0 : d0.now.length = 62) (hn : 1 ≤ n ∧ n ≤ 60) :
    Calls Tryz.prog 17 #[.pointer (some ⟨u.g, 0, none⟩), .int .i64 n] wr (DffPost wr u n) := by
  have HH : Hid (DAt wr u 62 d0) := h
  have HEN : Hid (Calls Tryz.prog 41 #[.int .i64 n, .slice none 0 0] wr fun e w' => ∃ A5 c5, e = .returned (.tuple #[.slice A5 2 c5, .nilIface]) ∧ BytesAt w' A5 (NT.encL n []) ∧ 2 ≤ c5 ∧ c5 ≤ maxLen ∧ (∀ x, A5 = some x → ∃ cs, Blk w' x.block 5 cs) ∧ Ext wr w') := by
    refine (encode_any wr n none 0 0 [] rfl (by omega) (.inl rfl)).mono ?_
    rintro e w5 ⟨hx5, ⟨hbad, _⟩ | ⟨_, A5, c5, rfl, hb5, hc5, hm5, hn5⟩⟩
    · exact absurd (DkE.nil hn).enc hbad
    · exact ⟨A5, c5, rfl, hb5, hc5, hm5, fun x hx => (hn5 x hx).2, hx5⟩
  have HGD : Hid (Good 62 (DK.sync (FmG 62 d0 2)) 0 [] ∧ (DK.sync (FmG 62 d0 2)).left = -1) := fmg_good (Nat.le_refl 62) hfr hl0
  obtain ⟨gu, hgu⟩ : ∃ g, u.g = g := ⟨_, rfl⟩
  have HGU := Lib.hid hgu
  rw [hgu]
  clear h hgu
  go_enter Tryz.func17, Tryz.ntmps17
  go_wp2_with fail
  refine HEN.out.mono ?_
  rintro e w1 ⟨A5, c5, rfl, hb5, hc5, hm5, hn5, hx1⟩
  have H1 : Hid (DAt w1 u 62 d0 ∧ Ext wr w1) := ⟨HH.out.ext hx1, hx1⟩
  have H5 : Hid (BytesAt w1 A5 (NT.encL n []) ∧ 2 ≤ c5 ∧ c5 ≤ maxLen ∧ ∀ x, A5 = some x → ∃ cs, Blk w1 x.block 5 cs) := ⟨hb5, hc5, hm5, hn5⟩
  have HFM := format_free w1 u 62 d0 H1.out.1 (Nat.le_refl _) hfr hw0
  rw [HGU.out] at HFM
  have HFM := Lib.hid HFM
  clear hb5 hc5 hm5 hn5 hx1 HEN
  go_wp2_with fail
  refine HFM.out.mono ?_
  rintro e w2 ⟨u2, rfl, hd2, hg2, hc2, hf2⟩
  have HC2 : Hid (Chg u.fp wr w2) := (Chg.new H1.out.2 u.fp).trans hc2 (fun _ _ h => h)
  have HF2 : Hid (∀ k, u2.fp k → u.fp k ∨ wr.heap.size ≤ k) := fun k hk => (hf2 k hk).imp id (fun q => by have := H1.out.2.size; omega)
  have H52 : Hid (BytesAt w2 A5 (NT.encL n []) ∧ ∀ x, A5 = some x → ∃ cs, Blk w2 x.block 5 cs) := by
    have off : ∀ x, A5 = some x → ¬ u.fp x.block := fun x hx => by
      obtain ⟨cs, hb⟩ := H5.out.2.2.2 x hx
      exact H1.out.1.notyp hb (by decide)
    refine ⟨H5.out.1.chg hc2 (fun _ x hx => off x hx), fun x hx => ?_⟩
    obtain ⟨cs, hb⟩ := H5.out.2.2.2 x hx
    exact ⟨cs, hb.chg hc2 (off x hx)⟩
  have hOP := open_good w2 u2 hd2 (Nat.le_refl _) HGD.out.1
  rw [hg2, HGU.out] at hOP
  have HOP := Lib.hid hOP
  have HD2 : Hid (DAt w2 u2 62 (DK.sync (FmG 62 d0 2)) ∧ u2.g = gu) := ⟨hd2, hg2.trans HGU.out⟩
  clear hd2 hg2 hc2 hf2 hOP HFM
  go_wp2_with fail
  refine HOP.out.mono ?_
  rintro e w3 ⟨gs, v3, rfl, hs3, hx3, hg3, hv3⟩
  have H53 : Hid (BytesAt w3 A5 (NT.encL n []) ∧ ∀ x, A5 = some x → ∃ cs, Blk w3 x.block 5 cs) := ⟨H52.out.1.ext hx3, fun x hx => by
    obtain ⟨cs, hb⟩ := H52.out.2 x hx
    exact ⟨cs, hb.chg (Chg.of_below hx3) (by have := hb.lt; omega)⟩⟩
  have HD3 : Hid (DAt w3 u2 62 (DK.sync (FmG 62 d0 2))) := HD2.out.1.ext hx3
  have HZ : Hid (wr.heap.size ≤ w2.heap.size ∧ w2.heap.size ≤ w3.heap.size ∧ w2.heap.size ≤ gs) := ⟨HC2.out.size, hx3.size, hg3⟩
  have HC3 : Hid (Chg u.fp wr w3) := HC2.out.trans (Chg.of_below hx3) (fun i hi q => by have := HC2.out.size; omega)
  have HSV := save_any w3 u2 62 _ HD3.out gs 0 v3 [] hs3 (by omega) A5 2 c5 (NT.encL n []) (NT.encL_len _ _) (by omega) H5.out.2.1 H5.out.2.2.1 H53.out.1 (fun _ x hx => by
    obtain ⟨cs, hb⟩ := H53.out.2 x hx
    exact ⟨HD3.out.notyp hb (by decide), hb.ne_ hs3.blk (by decide)⟩) (by rw [HGD.out.1.ws]; simp)
  have HSV := Lib.hid HSV
  clear hs3 hx3 hg3 hv3 H5 H52 H53 HOP
  go_wp2_with fail
  refine HSV.out.mono ?_
  rintro e w4 ⟨u4, v4, rfl, q1, q2, q3, q4, q5⟩
  rcases save_law (c := NT.encL n []) (Nat.le_refl 62) HGD.out.1 (by omega) (by rw [NT.encL_len]; simp) with ⟨r1, r2, r3⟩ | ⟨_, r2, _⟩
  · rw [r1] at q5 ⊢
    have HP : Hid (DffPost wr u n (.returned .nilIface) w4) := by
      refine ⟨rfl, gs, _, u4, v4, q1, q2.trans (HD2.out.2.trans HGU.out.symm), fun k hk => ?_, ?_, by have := HZ.out; omega, fun k hk => ?_, ?_, r2, r3 HGD.out.2⟩
      · rcases q4 k hk with q | q
        · exact HF2.out k q
        · right; have := HZ.out; omega
      · have := q5.1
        rw [HD2.out.2.trans HGU.out.symm] at this
        exact this
      · have := q5.2 k hk; have := HZ.out; omega
      · refine HC3.out.trans q3 (fun i hi q => ?_)
        rcases q with q | q
        · rcases HF2.out i q with q | q
          · exact q
          · omega
        · have := HZ.out; omega
    clear q1 q2 q3 q4 q5 r1 r2 r3 HSV
    go_wp2
    go_ret
    exact HP.out
  · exact absurd HGD.out.2 r2
/-- A used disk, formatted: a store through a law. -/
theorem dformat_used {W wr : World} {d : DK.D} {gu gs t n : Nat} {b : List Int} (h : SkR W 62 d gu gs t b false none wr) (hg : Good 62 d t b) (hl : d.left = -1) (hn : 1 ≤ n ∧ n ≤ 60) :
    Calls Tryz.prog 17 #[.pointer (some ⟨gu, 0, none⟩), .int .i64 n] wr (DfPost W gu n) := by
  obtain ⟨u, v, h1, h2, h3, h4, h5⟩ := h.all
  subst h2
  refine (dformat_free u d h1 ⟨hl, hg.dn⟩ (by rw [hg.ws]; simp) hg.ps.ln hn).mono ?_
  rintro e w' ⟨rfl, gs', d', u', v', q1, q2, q3, q4, q5, q6, q7, q8, q9⟩
  have hz := h.bel.size
  refine ⟨rfl, gs', d', ⟨⟨u', v', q1, q2, q4, fun k hk => ?_, fun k hk => by have := q6 k hk; omega⟩, ?_, by omega, fun _ _ h => by simp at h⟩, q8, q9⟩
  · rcases q3 k hk with q | q
    · exact h4 k q
    · omega
  · exact h.bel.trans (q7.below hz (fun k _ hk => h4 k hk))
end Go.Proofs.YtckcbfnffmohgaaGreat
namespace Go.Proofs.YtckcbfnffmohgaaGreat
open Go Go.RowKit SQ TR DF PD PT
set_option linter.unusedVariables false

/-- A desk: its edges A, saved S; lf: nothing stops its disk. -/
def DskA (lf : Bool) (W wr : World) (gu kb n t : Nat) (A S : List AK.Ed) : Prop :=
  ∃ (d : DK.D) (gs N : Nat) (G : GrP) (f : AK.Ed → GM.St), DkS W wr d gu gs t (NT.encL n S) false kb n N G A f ∧ Good 62 d t (NT.encL n S) ∧ (lf = true → d.left = -1) ∧ DkE n S
/-- A desk whose Save was stopped. -/
def DskB (W wr : World) (gu kb n t : Nat) (A S : List AK.Ed) : Prop :=
  ∃ (d : DK.D) (gs N : Nat) (G : GrP) (f : AK.Ed → GM.St), DkS W wr d gu gs t (NT.encL n S) true kb n N G A f ∧ (∀ keep, Good 62 (DK.crash d keep) t (NT.encL n S) ∨ Good 62 (DK.crash d keep) (t + 1) (NT.encL n A)) ∧ DkE n S
/-- A disk with a store on it, to be opened. -/
def SkA (lf : Bool) (W wr : World) (gu n t : Nat) (S : List AK.Ed) : Prop :=
  ∃ (d : DK.D) (gs t0 : Nat) (b0 : List Int) (dn : Bool), SkR W 62 d gu gs t0 b0 dn none wr ∧ Good 62 d t (NT.encL n S) ∧ (lf = true → d.left = -1) ∧ DkE n S
/-- Events of which one is wrong. -/
def FltK (n : Nat) (l : List AK.Ev) (A : List AK.Ed) (k : Nat) : Prop := (120 < l.length ∧ k = 3) ∨ (l.length ≤ 120 ∧ ∃ i V x y, DS.Okay n l A i ∧ l[i]? = some (⟨V, x, y⟩ : AK.Ev) ∧ DS.flt n (DS.run n l A i).1 V x y = k ∧ k ≠ 0)
section
variable {lf dn : Bool} {W wr w' : World} {gu kb n t k k' c : Nat} {A S : List AK.Ed} {l : List AK.Ev} {R : Option Addr}
theorem FltK.one (h : FltK n l A k) (h' : FltK n l A k') : k = k' := by
  rcases h with ⟨h1, rfl⟩ | ⟨h1, i, V, x, y, q1, q2, q3, q4⟩
  · rcases h' with ⟨_, rfl⟩ | ⟨h2, _⟩
    · rfl
    · omega
  · rcases h' with ⟨h2, _⟩ | ⟨_, i', V', x', y', r1, r2, r3, r4⟩
    · omega
    · rcases Nat.lt_trichotomy i i' with q | q | q
      · exact absurd (q3.symm.trans (r1 i _ q q2)) q4
      · subst q
        rw [q2] at r2
        injection r2 with r2
        injection r2 with e1 e2 e3
        subst e1; subst e2; subst e3
        rw [← q3, r3]
      · exact absurd (r3.symm.trans (q1 i' _ q r2)) r4
theorem FltK.no (h : FltK n l A k) (hl : l.length ≤ 120) (ho : DS.Okay n l A l.length) : False := by
  rcases h with ⟨h1, rfl⟩ | ⟨h1, i, V, x, y, q1, q2, q3, q4⟩
  · omega
  · exact q4 (q3.symm.trans (ho i _ (List.getElem?_eq_some_iff.1 q2).1 q2))
theorem DskA.moved (h : DskA lf W wr gu kb n t A S) (hx : Ext wr w') : DskA lf W w' gu kb n t A S := by
  obtain ⟨d, gs, N, G, f, h1, h2⟩ := h
  exact ⟨d, gs, N, G, f, h1.moved hx, h2⟩
theorem DskA.ext (h : DskA lf W wr gu kb n t A S) : Ext W wr := by obtain ⟨d, gs, N, G, f, h1, h2⟩ := h; exact h1.ext
theorem DskA.de (h : DskA lf W wr gu kb n t A S) : DkE n A := by obtain ⟨d, gs, N, G, f, h1, h2⟩ := h; exact h1.de
theorem DskA.se (h : DskA lf W wr gu kb n t A S) : DkE n S := by obtain ⟨d, gs, N, G, f, h1, h2, h3, h4⟩ := h; exact h4
theorem DskA.blk (h : DskA lf W wr gu kb n t A S) : ∃ cs, Blk wr kb 108 cs := by obtain ⟨d, gs, N, G, f, h1, h2⟩ := h; exact ⟨_, h1.blk⟩
theorem DskA.weak (h : DskA lf W wr gu kb n t A S) : DskA false W wr gu kb n t A S := by
  obtain ⟨d, gs, N, G, f, h1, h2, h3, h4⟩ := h
  exact ⟨d, gs, N, G, f, h1, h2, fun h => by simp at h, h4⟩
theorem SkA.ext (h : SkA lf W wr gu n t S) : Ext W wr := by obtain ⟨d, gs, t0, b0, dn, h1, h2⟩ := h; exact h1.bel
theorem SkA.moved (h : SkA lf W wr gu n t S) (hx : Ext wr w') : SkA lf W w' gu n t S := by
  obtain ⟨d, gs, t0, b0, dn, h1, h2⟩ := h
  exact ⟨d, gs, t0, b0, dn, h1.ext hx, h2⟩
theorem SkA.weak (h : SkA lf W wr gu n t S) : SkA false W wr gu n t S := by
  obtain ⟨d, gs, t0, b0, dn, h1, h2, h3, h4⟩ := h
  exact ⟨d, gs, t0, b0, dn, h1, h2, fun h => by simp at h, h4⟩
theorem DskA.sk (h : DskA lf W wr gu kb n t A S) : SkA lf W wr gu n t S := by
  obtain ⟨d, gs, N, G, f, h1, h2, h3, h4⟩ := h
  exact ⟨d, gs, t, _, false, h1.sk, h2, h3, h4⟩
/-- Formatted. -/
theorem da_fmt {e : Ending} (h : DfPost W gu n e wr) (hn : 1 ≤ n ∧ n ≤ 60) : e = .returned .nilIface ∧ SkA true W wr gu n 1 [] := by
  obtain ⟨rfl, gs, d, h1, h2, h3⟩ := h
  exact ⟨rfl, d, gs, 1, _, false, h1, h2, fun _ => h3, DkE.nil hn⟩
theorem da_format (h : DskA true W wr gu kb n t A S) {m : Nat} (hm : 1 ≤ m ∧ m ≤ 60) : Calls Tryz.prog 17 #[.pointer (some ⟨gu, 0, none⟩), .int .i64 m] wr fun e w' => e = .returned .nilIface ∧ SkA true W w' gu m 1 [] := by
  obtain ⟨d, gs, N, G, f, h1, h2, h3, h4⟩ := h
  refine (dformat_used h1.sk h2 (h3 rfl) hm).mono ?_
  intro e w' h
  exact da_fmt h hm
theorem da_open (h : SkA lf W wr gu n t S) : Calls Tryz.prog 18 #[.pointer (some ⟨gu, 0, none⟩)] wr fun e w' => ∃ kb, e = .returned (.tuple #[.pointer (some ⟨kb, 0, none⟩), .nilIface]) ∧ DskA lf W w' gu kb n t S S ∧ Ext wr w' := by
  obtain ⟨d, gs0, t0, b0, dn, h1, h2, h3, h4⟩ := h
  refine (dopen_any h1 h2 h4).mono ?_
  rintro e w' ⟨⟨kb, gs, G, f, rfl, q⟩, hx⟩
  exact ⟨kb, rfl, ⟨d, gs, _, G, f, q, h2, h3, h4⟩, hx⟩
theorem da_turn (h : DskA lf W wr gu kb n t A S) : Calls Tryz.prog 21 #[.pointer (some ⟨kb, 0, none⟩)] wr fun e w' => e = .returned (.int .i64 t) ∧ Ext wr w' := by
  obtain ⟨d, gs, N, G, f, h1, h2⟩ := h
  exact dturn_any h1
theorem da_graph (h : DskA lf W wr gu kb n t A S) : Calls Tryz.prog 48 #[.pointer (some ⟨kb, 0, none⟩)] wr (DgPost wr n A) := by
  obtain ⟨d, gs, N, G, f, h1, h2⟩ := h
  exact dgraph_any wr kb gs n N G A f h1.blk h1.g h1.le
theorem da_save (h : DskA lf W wr gu kb n t A S) (ht : t + 1 ≤ 100) : Calls Tryz.prog 20 #[.pointer (some ⟨kb, 0, none⟩)] wr fun e w' => ((e = .returned .nilIface ∧ DskA lf W w' gu kb n (t + 1) A A) ∨ (e = .returned (derrV 8) ∧ lf = false ∧ DskB W w' gu kb n t A S)) ∧ Keeps wr w' := by
  obtain ⟨d, gs, N, G, f, h1, h2, h3, h4⟩ := h
  refine (dsave_any h1 h2 ht).mono ?_
  rintro e w' ⟨⟨d', rfl, q1, q2, q3⟩ | ⟨d', rfl, q1, q2, q3⟩, hk⟩
  · exact ⟨.inl ⟨rfl, d', gs, N, G, f, q1, q2, fun hl => q3 (h3 hl), h1.de⟩, hk⟩
  · refine ⟨.inr ⟨rfl, ?_, d', gs, N, G, f, q2, q3, h4⟩, hk⟩
    cases lf
    · rfl
    · exact absurd (h3 rfl) q1
theorem db_ext (h : DskB W wr gu kb n t A S) : Ext W wr := by obtain ⟨d, gs, N, G, f, h1, h2⟩ := h; exact h1.ext
theorem db_moved (h : DskB W wr gu kb n t A S) (hx : Ext wr w') : DskB W w' gu kb n t A S := by
  obtain ⟨d, gs, N, G, f, h1, h2⟩ := h
  exact ⟨d, gs, N, G, f, h1.moved hx, h2⟩
/-- Events that are right, what they come to. -/
def DoneK (n : Nat) (l : List AK.Ev) (A A' : List AK.Ed) (xs : List Bool) : Prop := l.length ≤ 120 ∧ DS.Okay n l A l.length ∧ DS.run n l A l.length = (A', xs)
theorem DoneK.one {A' A2 : List AK.Ed} {xs xs2 : List Bool} (h : DoneK n l A A' xs) (h' : DoneK n l A A2 xs2) : A' = A2 ∧ xs = xs2 := by
  have := h.2.2.symm.trans h'.2.2
  injection this with h1 h2
  exact ⟨h1, h2⟩
theorem DoneK.len {A' : List AK.Ed} {xs : List Bool} (h : DoneK n l A A' xs) : xs.length ≤ 120 := by
  have h1 := DS.run_len (n := n) (l := l) (A := A) l.length
  rw [h.2.2] at h1
  exact Nat.le_trans h1 h.1
theorem FltK.no2 {A' : List AK.Ed} {xs : List Bool} (h : FltK n l A k) (h' : DoneK n l A A' xs) : False := h.no h'.1 h'.2.1
/-- What Do leaves of a desk. -/
def DaDo (lf : Bool) (W wr : World) (gu kb n t : Nat) (A S : List AK.Ed) (l : List AK.Ev) (e : Ending) (w' : World) : Prop :=
  (∃ k : Nat, FltK n l A k ∧ e = .returned (.tuple #[.slice none 0 0, errV k]) ∧ Ext wr w') ∨
  (∃ A' xs, DoneK n l A A' xs ∧ ∃ (Ao : Option Addr) (c : Nat), e = .returned (.tuple #[.slice Ao xs.length c, .nilIface]) ∧ w'.ownsRow 0 4 1 (.slice Ao xs.length c) xs.length (bolV xs) ∧ (∀ j, (Value.slice Ao xs.length c).ownBlock = some j → wr.heap.size ≤ j) ∧
    DskA lf W w' gu kb n t A' S ∧ Chg (fun k => k = kb) wr w')
theorem da_do (h : DskA lf W wr gu kb n t A S) (Ae : Option Addr) (m c : Nat) (l : List AK.Ev) (hl : l.length = m) (hE : EvRow wr Ae l) (hin : EvIn l) : Calls Tryz.prog 19 #[.pointer (some ⟨kb, 0, none⟩), .slice Ae m c] wr (DaDo lf W wr gu kb n t A S l) := by
  obtain ⟨d, gs, N, G, f, h1, h2, h3, h4⟩ := h
  refine (ddo_any wr kb gs n N G A f h1.blk h1.g h1.le Ae m c l hl hE hin).mono ?_
  rintro e w' (⟨k, hk, rfl, hx⟩ | ⟨q1, q2, Ao, co, N', G', f', rfl, q3, q4, q5, q6, q7, q8⟩)
  · exact .inl ⟨k, hk, rfl, hx⟩
  · exact .inr ⟨_, _, ⟨q1, q2, rfl⟩, Ao, co, rfl, q3, q4, ⟨d, gs, N', G', f', h1.did q5 q6 q7 q8 (run_le h1.le _ q2), h2, h3, h4⟩, q8⟩
theorem row_do {lO : Value} {q : Nat} {xs : List Bool} (h : wr.ownsRow 0 4 1 lO q (bolV xs)) (hb : ∃ cs, Blk wr kb 108 cs) (hc : Chg (fun k => k = kb) wr w') : w'.ownsRow 0 4 1 lO q (bolV xs) := by
  obtain ⟨cs, hb⟩ := hb
  have := own_ne h hb (by decide)
  exact own_chg h hc (fun k hk e => this (by rw [hk, e]))
theorem blk_do {g : Nat} {cs cs' : Array Value} {ty : TypeId} (h : Blk wr g ty cs) (hb : Blk wr kb 108 cs') (ht : ¬ ty = 108) (hc : Chg (fun k => k = kb) wr w') : Blk w' g ty cs := h.chg hc (fun e => by subst e; exact ht (blk_ty h hb))
theorem blk_ext {g : Nat} {cs : Array Value} {ty : TypeId} (h : Blk wr g ty cs) (hx : Ext wr w') : Blk w' g ty cs := h.chg (Chg.of_below hx) (by have := h.lt; omega)
end
end Go.Proofs.YtckcbfnffmohgaaGreat
namespace Go.Proofs.YtckcbfnffmohgaaGreat
open Go Go.RowKit SQ TR DF PD PT
set_option linter.unusedVariables false

theorem fact_done : DoneK 3 [(⟨1, 0, 1⟩ : AK.Ev), ⟨3, 1, 0⟩] [] [((0 : Int), (1 : Int))] [true] := by
  have e0 : DS.run 3 [(⟨1, 0, 1⟩ : AK.Ev), ⟨3, 1, 0⟩] [] 1 = ([((0 : Int), (1 : Int))], []) := by
    rw [DS.run_next (e := ⟨1, 0, 1⟩) rfl]
    show (DS.nxt [] 1 0 1, [] ++ DS.out1 [] ⟨1, 0, 1⟩) = _
    have h1 : DS.nxt [] 1 0 1 = [((0 : Int), (1 : Int))] := by decide
    have h2 : DS.out1 [] ⟨1, 0, 1⟩ = [] := by unfold DS.out1; rw [if_neg (by decide)]
    rw [h1, h2]; rfl
  refine ⟨by decide, fun j e hj he => ?_, ?_⟩
  · have hj2 : j = 0 ∨ j = 1 := by simp at hj; omega
    rcases hj2 with rfl | rfl
    · simp at he; subst he
      show DS.flt 3 [] 1 0 1 = 0
      decide
    · simp at he; subst he
      rw [e0]
      show DS.flt 3 [((0 : Int), (1 : Int))] 3 1 0 = 0
      decide
  · show DS.run 3 [(⟨1, 0, 1⟩ : AK.Ev), ⟨3, 1, 0⟩] [] 2 = _
    rw [DS.run_next (e := ⟨3, 1, 0⟩) rfl, e0]
    show (DS.nxt [((0 : Int), (1 : Int))] 3 1 0, [] ++ DS.out1 [((0 : Int), (1 : Int))] ⟨3, 1, 0⟩) = _
    have h1 : DS.nxt [((0 : Int), (1 : Int))] 3 1 0 = [((0 : Int), (1 : Int))] := by decide
    have h2 : DS.out1 [((0 : Int), (1 : Int))] ⟨3, 1, 0⟩ = [true] := by
      unfold DS.out1
      rw [if_pos rfl]
      have : true = DS.ansB [((0 : Int), (1 : Int))] 1 0 := DS.ansB_iff (iff_of_true rfl (DF.Cn.edge (.inr (by simp))))
      rw [← this]
    rw [h1, h2]; rfl
section
variable {n k : Nat} {e : AK.Ev} {B B' : List AK.Ed} {xs : List Bool}
theorem flt_one (h : FltK n [e] B k) : DS.flt n B e.w e.a e.b = k ∧ k ≠ 0 := by
  rcases h with ⟨h1, _⟩ | ⟨_, i, V, x, y, _, q2, q3, q4⟩
  · simp at h1
  · have hi : i = 0 := by have := (List.getElem?_eq_some_iff.1 q2).1; simpa using this
    subst hi
    simp at q2
    subst q2
    exact ⟨q3, q4⟩
theorem done_one (h : DoneK n [e] B B' xs) : DS.flt n B e.w e.a e.b = 0 ∧ B' = DS.nxt B e.w e.a e.b ∧ xs = DS.out1 B e := by
  obtain ⟨_, h1, h2⟩ := h
  have h3 := h1 0 e (by simp) rfl
  have e1 : DS.run n [e] B [e].length = (DS.nxt B e.w e.a e.b, [] ++ DS.out1 B e) := DS.run_next (i := 0) rfl
  rw [e1] at h2
  injection h2 with q1 q2
  exact ⟨h3, q1.symm, by rw [← q2, List.nil_append]⟩
end
theorem ev_new (w : World) (l : List AK.Ev) (cs : Array Value) (h : ∀ i e, l[i]? = some e → cs[i * 3]? = some (.int .i64 e.w) ∧ cs[i * 3 + 1]? = some (.int .i64 e.a) ∧ cs[i * 3 + 2]? = some (.int .i64 e.b)) : EvRow (w.alloc (.cells cs 62)) (some ⟨w.heap.size, 0, none⟩) l := by
  have hb := Blk.new w 62 cs
  refine .inr ⟨_, 0, rfl, hb.lt, fun i e he => ?_⟩
  obtain ⟨q1, q2, q3⟩ := h i e he
  refine ⟨?_, ?_, ?_⟩
  · rw [hb.cell, Nat.zero_add]; exact q1
  · rw [hb.cell, Nat.zero_add]; exact q2
  · rw [hb.cell, Nat.zero_add]; exact q3
theorem da_gedges {wr w4 : World} {G4 : GrP} {n N : Nat} {A : List AK.Ed} {f4 : AK.Ed → GM.St} (h : GcS wr w4 G4 n N A f4) (hd : DkE n A) : Calls Tryz.prog 11 #[.pointer (some ⟨G4.gb, 0, none⟩)] w4 fun e w' => ∃ A5 c5, e = .returned (.slice A5 A.length c5) ∧ RowE w' A5 c5 A ∧ Ext w4 w' := by
  refine (gedges_any h.at_.m hd.ok hd.up hd.le).mono ?_
  rintro e w5 ⟨A5, c5, rfl, hd5, hx5, _⟩
  have hed := DRow.eds hd5 rfl
  exact ⟨A5, c5, rfl, ⟨hed.1, ⟨hed.2, own_capmax (show w5.ownsRow 0 32 2 (.slice A5 A.length c5) A.length (rowsOf edC A) from hd5)⟩, fun hne x hA => own_blkB (show w5.ownsRow 0 32 2 (.slice A5 A.length c5) A.length (rowsOf edC A) from hd5) (by subst hA; rfl)⟩, hx5⟩
theorem fact_row (w : World) : EvRow (w.alloc (.cells #[.int .i64 1, .int .i64 0, .int .i64 1, .int .i64 3, .int .i64 1, .int .i64 0] 62)) (some ⟨w.heap.size, 0, none⟩) [⟨1, 0, 1⟩, ⟨3, 1, 0⟩] := ev_new w _ _ fun i e he => by
  match i, he with
  | 0, he => simp at he; subst he; exact ⟨rfl, rfl, rfl⟩
  | 1, he => simp at he; subst he; exact ⟨rfl, rfl, rfl⟩
  | k + 2, he => simp at he
theorem true_row (w : World) : BoolsAt (w.alloc (.cells #[.bool true] 4)) (some ⟨w.heap.size, 0, none⟩) [true] := by
  have hb := Blk.new w 4 #[.bool true]
  refine .inr ⟨_, 0, rfl, hb.lt, fun i v hv => ?_⟩
  match i, hv with
  | 0, hv => simp at hv; subst hv; rw [hb.cell]; rfl
  | k + 1, hv => simp at hv
/-- Do of the closed fact. -/
theorem da_fact {lf : Bool} {W w3 : World} {gu kb t : Nat} {S : List AK.Ed} (h : DskA lf W w3 gu kb 3 t [] S) : Calls Tryz.prog 19 #[.pointer (some ⟨kb, 0, none⟩), .slice (some ⟨w3.heap.size, 0, none⟩) 2 2] (w3.alloc (.cells #[.int .i64 1, .int .i64 0, .int .i64 1, .int .i64 3, .int .i64 1, .int .i64 0] 62)) fun e w' => ∃ Ao c, e = .returned (.tuple #[.slice Ao 1 c, .nilIface]) ∧ BoolsAt w' Ao [true] ∧ (∃ b, Ao = some ⟨b, 0, none⟩ ∧ w'.cell? ⟨b, 0, none⟩ = some (.bool true)) ∧ DskA lf W w' gu kb 3 t [((0 : Int), (1 : Int))] S := by
  refine (da_do (h.moved (Ext.alloc _ _)) _ 2 2 [⟨1, 0, 1⟩, ⟨3, 1, 0⟩] rfl (fact_row w3) (by intro e he; simp at he; rcases he with rfl | rfl <;> simp)).mono ?_
  rintro e w' (⟨k, hk, _⟩ | ⟨A', xs, hdn, Ao, c, rfl, ho, _, h5, _⟩)
  · exact (hk.no2 fact_done).elim
  · obtain ⟨rfl, rfl⟩ := hdn.one fact_done
    have hb := (BoolsAt.of_own ho).1
    refine ⟨Ao, c, rfl, hb, ?_, h5⟩
    obtain ⟨g, cap, hv, _⟩ := own_form ho (by decide)
    simp only [Value.slice.injEq, true_and] at hv
    obtain ⟨rfl, rfl⟩ := hv
    exact ⟨g, rfl, by have := ho.cellAt 0 (by decide); simpa [bolV] using this⟩
end Go.Proofs.YtckcbfnffmohgaaGreat
namespace Go.Proofs.YtckcbfnffmohgaaGreat
open Go Go.RowKit SQ TR DF PD PT
set_option linter.unusedVariables false

set_option maxHeartbeats 4000000 in
set_option maxRecDepth 100000 in
theorem one_any (w : World) : Calls Tryz.prog 5 #[] w fun e w' => e = .returned (.bool true) ∧ Ext w w' := by
  go_enter Tryz.func5, Tryz.ntmps5
  go_wp2_with fail
  refine (dnew_yes w 62 (by omega) (by omega)).mono ?_
  rintro e w1 ⟨u, rfl, hd1, hx1, hf1⟩
  have HFM := dformat_new (n := 3) u hd1 hx1 hf1 (by omega)
  obtain ⟨gu, hgu⟩ : ∃ g, u.g = g := ⟨_, rfl⟩
  rw [hgu] at HFM ⊢
  have HFM := Lib.hid HFM
  clear hd1 hx1 hf1 hgu
  go_wp2_with fail
  refine HFM.out.mono ?_
  intro e w2 h2
  obtain ⟨rfl, hk2⟩ := da_fmt h2 (by omega)
  have H2 := Lib.hid hk2
  clear h2 hk2 HFM
  go_wp2_with fail
  refine (da_open H2.out).mono ?_
  rintro e w3 ⟨kb, rfl, h3, _⟩
  have H3 := Lib.hid h3
  clear h3 H2
  go_wp2_with fail
  refine (da_fact H3.out).mono ?_
  rintro e w4 ⟨Ao, c4, rfl, hb4, ⟨b4, rfl, e4⟩, h4⟩
  have H4 := Lib.hid h4
  clear h4 hb4 H3
  go_wp2_with fail
  refine (da_save H4.out (by omega)).mono ?_
  rintro e w6 ⟨⟨rfl, h6⟩ | ⟨_, hb, _⟩, _⟩
  case inr => cases hb
  have H6 := Lib.hid h6
  clear h6 H4 e4
  go_wp2_with fail
  refine (da_turn H6.out).mono ?_
  rintro e w7 ⟨rfl, hx7⟩
  have H7 := Lib.hid (H6.out.moved hx7)
  clear hx7 H6
  go_wp2
  go_ret
  exact ⟨rfl, H7.out.ext⟩
/-- The graph so far. -/
def DrR (w wr : World) (g0 n i : Nat) : Prop := ∃ (G : GrP) (A : List AK.Ed) (f : AK.Ed → GM.St), G.gb = g0 ∧ GcS w wr G n (n + 4000 * i) A f ∧ A.length ≤ i
section
variable {w wr w' : World} {g0 n i : Nat}
theorem DrR.moved (h : DrR w wr g0 n i) (hx : Ext wr w') : DrR w w' g0 n i := by obtain ⟨G, A, f, h1, h2, h3⟩ := h; exact ⟨G, A, f, h1, h2.moved hx, h3⟩
theorem DrR.ext (h : DrR w wr g0 n i) : Ext w wr := by obtain ⟨G, A, f, _, h, _⟩ := h; exact h.ext
theorem DrR.add (h : DrR w wr g0 n i) (hi : i < 120) (x y : Int) (hx : in64 x) (hy : in64 y) : Calls Tryz.prog 29 #[.pointer (some ⟨g0, 0, none⟩), .int .i64 x, .int .i64 y] wr fun e w' => ∃ v, e = .returned v ∧ DrR w w' g0 n (i + 1) := by
  obtain ⟨G, A, f, rfl, h2, h3⟩ := h
  have hn := h2.at_.m.hn
  refine (act_add h2.at_ (by omega) x y hx hy).mono ?_
  rintro e w' ⟨rfl, G', f', q1, q2⟩
  refine ⟨_, rfl, G', _, f', q2.gb, h2.step (q1.mono (by omega)) q2, ?_⟩
  split
  · unfold DS.nxt; rw [if_pos rfl, putE_length]; omega
  · omega
theorem DrR.drop (h : DrR w wr g0 n i) (hi : i < 120) (x y : Int) : Calls Tryz.prog 28 #[.pointer (some ⟨g0, 0, none⟩), .int .i64 x, .int .i64 y] wr fun e w' => ∃ v, e = .returned v ∧ DrR w w' g0 n (i + 1) := by
  obtain ⟨G, A, f, rfl, h2, h3⟩ := h
  have hn := h2.at_.m.hn
  refine (act_drop h2.at_ (by omega) (by omega) x y).mono ?_
  rintro e w' ⟨rfl, G', f', q1, q2⟩
  refine ⟨_, rfl, G', _, f', q2.gb, h2.step (q1.mono (by omega)) q2, ?_⟩
  split
  · unfold DS.nxt; rw [if_neg (by decide), if_pos rfl]; have := cutE_len_le (AK.ek x y) A; omega
  · omega
end
/-- What drawn leaves. -/
def DrPost (w : World) (n : Nat) (e : Ending) (w' : World) : Prop := ∃ (G : GrP) (A : List AK.Ed) (f : AK.Ed → GM.St) (N : Nat), e = .returned (.tuple #[.pointer (some ⟨G.gb, 0, none⟩), .bool true]) ∧ GcS w w' G n N A f ∧ N ≤ 480060 ∧ A.length ≤ 120
set_option maxHeartbeats 1000000 in
theorem drawn_no (w : World) (n : Int) (a : Option Addr) (m c : Nat) (hn : n < 1 ∨ 60 < n) : Calls Tryz.prog 10 #[.int .i64 n, .slice a m c] w fun e w' => e = .returned (.tuple #[.pointer none, .bool false]) ∧ w = w' := by
  have HG := Lib.hid (gnew_no w n hn)
  clear hn
  go_enter Tryz.func10, Tryz.ntmps10
  go_wp2_with fail
  refine HG.out.mono ?_
  rintro e w1 ⟨rfl, rfl⟩
  go_wp2
  go_ret2
  exact ⟨rfl, rfl⟩
set_option maxHeartbeats 4000000 in
set_option maxRecDepth 100000 in
theorem drawn_any (w : World) (n : Nat) (hn : 1 ≤ n ∧ n ≤ 60) (a1 : Option Addr) (len1 cap1 : Nat) (l : List AK.Ev) (hl : l.length = len1) (hE : EvRow w a1 l) (hin : EvIn l) : Calls Tryz.prog 10 #[.int .i64 n, .slice a1 len1 cap1] w (DrPost w n) := by
  have HE : Hid (EvRow w a1 l ∧ EvIn l ∧ l.length = len1) := ⟨hE, hin, hl⟩
  clear hE hin hl
  go_enter Tryz.func10, Tryz.ntmps10
  go_wp2_with fail
  refine (gnew_ok w n hn).mono ?_
  intro e w1 hp
  obtain ⟨G, rfl, hgc, hx1⟩ := GcS.made (Ext.refl w) hp
  obtain ⟨g0, hg0⟩ : ∃ g, G.gb = g := ⟨_, rfl⟩
  have R0 : Hid (DrR w w1 g0 n 0) := ⟨G, [], _, hg0, hgc, Nat.le_refl _⟩
  rw [hg0]
  clear hp hgc hx1 hg0
  go_wp2
  go_loopw [8] (fun v8 wr => ∃ i : Nat, i ≤ len1 ∧ i ≤ 120 ∧ v8 = .int .i64 i ∧ Hid (DrR w wr g0 n i)) (fun v8 _ => len1 - (intOf v8).toNat)
  case atStart => exact ⟨0, Nat.zero_le _, Nat.zero_le _, rfl, R0.out⟩
  case round =>
    as_aux_lemma =>
    obtain ⟨i, hi, hi2, rfl, HR⟩ := hrel
    clear R0
    by_cases c : i < len1 ∧ i < 120
    · obtain ⟨c1, c2⟩ := c
      obtain ⟨b, off, V, x, y, rfl, hx, p0, p1, p2⟩ := (HE.out.1.ext HR.out.ext).at_ (show i < l.length by rw [HE.out.2.2]; exact c1)
      have HI : Hid (in64 x ∧ in64 y) := HE.out.2.1 _ (List.mem_of_getElem? hx)
      have z0 : (0 : Int) ≤ (i : Int) := by omega
      have z1 : (i : Int) < (len1 : Int) := by omega
      have z2 : (i : Int) < 120 := by omega
      have HC : Hid (∀ W, Ext w W → Ext w W ∧ W.cell? ⟨b, off + i * 3 + 1, none⟩ = some (.int .i64 x) ∧ W.cell? ⟨b, off + i * 3 + 2, none⟩ = some (.int .i64 y)) := fun W hW => by
        rcases HE.out.1.ext hW with h0 | ⟨b', off', he, hb', hc'⟩
        · have := HE.out.2.2; subst h0; simp at this; omega
        · injection he with he
          injection he with e1 e2
          subst e1; subst e2
          exact ⟨hW, (hc' i _ hx).2⟩
      have hE0 : Ext w wr := HR.out.ext
      clear hx
      by_cases hV : V = 2
      · subst hV
        have HDR := Lib.hid (fun W (hW : Ext wr W) => (HR.out.moved hW).drop c2 x y)
        go_wp2_with fail
        go_region_held3 (fun W => Ext w W ∧ W.cell? ⟨b, off + i * 3 + 1, none⟩ = some (.int .i64 x) ∧ W.cell? ⟨b, off + i * 3 + 2, none⟩ = some (.int .i64 y))
          (exact HC.out _ (by first | assumption | exact Ext.trans hE0 (Ext.drew _) | exact fst_ (by assumption) | exact Ext.trans (fst_ (by assumption)) (by assumption)))
          (first
            | (go_at_call 28; refine (HDR.out _ (Ext.drew _)).mono ?_; rintro e w8 ⟨v, rfl, h8⟩; have H8 := Lib.hid h8; have hF8 : Ext w w8 := h8.ext; clear h8)
            | fail)
        rename_i hHeld
        clear hHeld HR HDR HC hE0 hF8
        go_wp2
        go_roundw
        case rel => exact ⟨i + 1, by omega, by omega, by go_num, H8.out⟩
        case measure => simp [intOf]; omega
      · have hV' : (V == 2) = false := by simpa using hV
        have HDR := Lib.hid (fun W (hW : Ext wr W) => (HR.out.moved hW).add c2 x y HI.out.1 HI.out.2)
        go_wp2_with fail
        go_region_held3 (fun W => Ext w W ∧ W.cell? ⟨b, off + i * 3 + 1, none⟩ = some (.int .i64 x) ∧ W.cell? ⟨b, off + i * 3 + 2, none⟩ = some (.int .i64 y))
          (exact HC.out _ (by first | assumption | exact Ext.trans hE0 (Ext.drew _) | exact fst_ (by assumption) | exact Ext.trans (fst_ (by assumption)) (by assumption)))
          (first
            | (go_at_call 29; refine (HDR.out _ (Ext.drew _)).mono ?_; rintro e w8 ⟨v, rfl, h8⟩; have H8 := Lib.hid h8; have hF8 : Ext w w8 := h8.ext; clear h8)
            | fail)
        rename_i hHeld
        clear hHeld HR HDR HC hE0 hF8
        go_wp2
        go_roundw
        case rel => exact ⟨i + 1, by omega, by omega, by go_num, H8.out⟩
        case measure => simp [intOf]; omega
    · have HP : Hid (DrPost w n (.returned (.tuple #[.pointer (some ⟨g0, 0, none⟩), .bool true])) wr) := by
        obtain ⟨G, A, f, rfl, h2, h3⟩ := HR.out
        exact ⟨G, A, f, _, rfl, h2, by omega, by omega⟩
      clear HR
      have hii : (i < len1 ∧ ¬ i < 120) ∨ ¬ i < len1 := by omega
      clear c
      rcases hii with ⟨c1, c2⟩ | c1
      all_goals
        go_wp2
        go_ret2
        exact HP.out
end Go.Proofs.YtckcbfnffmohgaaGreat
namespace Go.Proofs.YtckcbfnffmohgaaGreat
open Go Go.RowKit SQ TR DF PD PT
set_option linter.unusedVariables false

noncomputable def jB (n : Nat) (A : List AK.Ed) (a b : Int) : Bool := by classical exact decide ((0 ≤ a ∧ a < n) ∧ (0 ≤ b ∧ b < n) ∧ Cn (adj A) a.toNat b.toNat)
def jE (n : Nat) (a b : Int) : Value := if (0 ≤ a ∧ a < n) ∧ (0 ≤ b ∧ b < n) then .nilIface else errV 1
theorem jE_or (n : Nat) (a b : Int) : jE n a b = .nilIface ∨ jE n a b = errV 1 := by unfold jE; split <;> simp
section
variable {w w' wr : World} {G : GrP} {n N : Nat} {A B : List AK.Ed} {f : AK.Ed → GM.St}
theorem jB_iff {a b : Nat} (ha : a < n) (hb : b < n) : jB n A (a : Int) b = true ↔ Cn (adj A) a b := by
  unfold jB
  simp only [decide_eq_true_iff, Int.toNat_natCast]
  exact ⟨fun h => h.2.2, fun h => ⟨by omega, by omega, h⟩⟩
theorem gj_any (h : GrI w G n N A f) (a b : Int) : Calls Tryz.prog 78 #[.pointer (some ⟨G.gb, 0, none⟩), .int .i64 a, .int .i64 b] w fun e w' => e = .returned (.tuple #[.bool (jB n A a b), jE n a b]) ∧ Ext w w' := by
  by_cases hr : (0 ≤ a ∧ a < n) ∧ (0 ≤ b ∧ b < n)
  · obtain ⟨a, rfl⟩ := Int.eq_ofNat_of_zero_le hr.1.1
    obtain ⟨b, rfl⟩ := Int.eq_ofNat_of_zero_le hr.2.1
    have ha : a < n := by omega
    have hb : b < n := by omega
    have hE : jE n (a : Int) b = .nilIface := by unfold jE; rw [if_pos hr]
    rw [hE]
    exact gjoined_ok h.m a b ha hb _ ((jB_iff ha hb).trans h.k.joins)
  · have hB : jB n A a b = false := by unfold jB; rw [decide_eq_false_iff_not]; exact fun q => hr ⟨q.1, q.2.1⟩
    have hE : jE n a b = errV 1 := by unfold jE; rw [if_neg hr]
    rw [hB, hE]
    refine (gjoined_range h.m a b (by omega)).mono ?_
    rintro e w' ⟨rfl, rfl⟩
    exact ⟨rfl, Ext.refl _⟩
theorem GrI.de (h : GrI w G n N A f) (hl : A.length ≤ 200) : DkE n A := ⟨h.m.hn, h.k.ok, h.k.up, hl⟩
theorem GrI.gc (h : GrI w G n N A f) : GcS w w G n N A f ∨ True := .inr trivial
/-- The graph's Edges. -/
theorem ge_any (h : GrI w G n N A f) (hl : A.length ≤ 200) : Calls Tryz.prog 11 #[.pointer (some ⟨G.gb, 0, none⟩)] w fun e w' => ∃ A5 c5, e = .returned (.slice A5 A.length c5) ∧ EdsAt w' A5 A ∧ (A.length ≤ c5 ∧ c5 ≤ maxLen) ∧ Ext w w' := by
  refine (gedges_any h.m h.k.ok h.k.up hl).mono ?_
  rintro e w5 ⟨A5, c5, rfl, hd5, hx5, _⟩
  have hed := DRow.eds hd5 rfl
  exact ⟨A5, c5, rfl, hed.1, ⟨hed.2, own_capmax (show w5.ownsRow 0 32 2 (.slice A5 A.length c5) A.length (rowsOf edC A) from hd5)⟩, hx5⟩
end
theorem dk_take {n : Nat} {A : List AK.Ed} (h : DkE n A) (i : Nat) : DkE n (A.take i) := ⟨h.hn, fun x hx => h.ok x (List.mem_of_mem_take hx), h.up.sublist (List.take_sublist _ _), Nat.le_trans (List.length_take_le' _ _) h.le⟩
theorem take_done {n i : Nat} {A : List AK.Ed} (h : DkE n A) {x y : Int} (hx : A[i]? = some (x, y)) : DoneK n [⟨1, x, y⟩] (A.take i) (A.take (i + 1)) [] := by
  have hxy := h.ok _ (List.mem_of_getElem? hx)
  simp only at hxy
  have hlt : i < A.length := (List.getElem?_eq_some_iff.1 hx).1
  have hek : AK.ek x y = (x, y) := by unfold AK.ek; rw [Int.min_eq_left (by omega), Int.max_eq_right (by omega)]
  have e : A.take (i + 1) = A.take i ++ [(x, y)] := by rw [List.take_add_one, hx]; rfl
  have hnew : (x, y) ∉ A.take i := fun q => by
    have h1 : (A.take (i + 1)).Nodup := (List.take_sublist _ A).nodup (rises_nodup h.up)
    rw [e, List.nodup_append] at h1
    exact h1.2.2 _ q _ (by simp) rfl
  have hlen : (A.take i).length ≠ 200 := by rw [List.length_take]; have := h.le; omega
  have hf : DS.flt n (A.take i) 1 x y = 0 := by
    unfold DS.flt
    rw [if_neg (by omega), if_pos rfl]
    unfold addFault
    rw [if_neg (by omega), if_neg (by omega), hek, if_neg hnew, if_neg hlen]
  have hn : DS.nxt (A.take i) 1 x y = A.take (i + 1) := by
    unfold DS.nxt
    rw [if_pos rfl, hek]
    refine rises_ext (putE_rises (dk_take h i).up hnew) (dk_take h (i + 1)).up fun z => ?_
    rw [putE_mem, e, List.mem_append, List.mem_singleton]
    exact Or.comm
  refine ⟨by simp, fun j d hj hd => ?_, ?_⟩
  · match j, hj with
    | 0, _ => simp at hd; subst hd; exact hf
  · show DS.run n [⟨1, x, y⟩] (A.take i) 1 = _
    rw [DS.run_next (i := 0) (e := ⟨1, x, y⟩) rfl]
    show (DS.nxt (A.take i) 1 x y, [] ++ DS.out1 (A.take i) ⟨1, x, y⟩) = _
    rw [hn]
    unfold DS.out1
    rw [if_neg (show ¬ (1 : Int) = 3 by decide)]
    rfl
theorem ev_one (w : World) (V x y : Int) : EvRow (w.alloc (.cells #[.int .i64 V, .int .i64 x, .int .i64 y] 62)) (some ⟨w.heap.size, 0, none⟩) [⟨V, x, y⟩] := ev_new w _ _ fun i e he => by
  match i, he with
  | 0, he => simp at he; subst he; exact ⟨rfl, rfl, rfl⟩
  | k + 1, he => simp at he
end Go.Proofs.YtckcbfnffmohgaaGreat
namespace Go.Proofs.YtckcbfnffmohgaaGreat
open Go Go.RowKit Go.ChangeShapes Go.WideShapes
set_option linter.unusedVariables false

theorem open_evs2 {H : Type} {enc : TypeId × Value → H} {w : World} {spare : Nat → Bool} {held : Bool} {a : Option Addr} {len cap : Nat} {d : DataW H} {p : List MemPlace} (h : DataW.Trod enc Tryz.prog w 0 spare held 38 (.slice a len cap) d p) : ∃ l : List AK.Ev, EvRow w a l ∧ l.length = len ∧ (len ≤ cap ∧ cap ≤ maxLen) ∧ EvIn l := by
  obtain ⟨fuel, hf⟩ := h
  obtain ⟨A, m, c, l, hv, q1, q2, q3, _, q4⟩ := open_evrow hf
  injection hv with e1 e2 e3
  subst e1; subst e2; subst e3
  exact ⟨l, q1, q2, q3, q4⟩
end Go.Proofs.YtckcbfnffmohgaaGreat
