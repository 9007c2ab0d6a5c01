/-
  Walk of store.Format at a new disk. Conditions: the disk lies as 'DAt' says, has 62 pages or more.
-/
import Derived.Test.YtenjblonepegfaaDoorSt8
import Derived.Deep.CutBlock
import Derived.Deep.DeepCutAuto
import Derived.StillTailTactics
namespace Go.Proofs.YtenjblonepegfaaDoor
open Go Go.RowKit
set_option linter.unusedVariables false

theorem bytes_blk {w : World} {g : Nat} {p : List Int} (h : Blk w g 5 (DK.pgv p).toArray) : BytesAt w (some ⟨g, 0, none⟩) p := by
  refine .inr ⟨g, 0, rfl, h.lt, fun i v hv => ?_⟩
  rw [h.cell, Nat.zero_add, List.getElem?_toArray]
  simp [DK.pgv, hv]
theorem optErr_none : optErr none = .nilIface := rfl
theorem optErr_some (x : Int) : optErr (some x) = derrV x := rfl
theorem DAt.notyp {w : World} {u : Dsk} {n : Nat} {d : DK.D} (h : DAt w u n d) {k : Nat} {t : TypeId} {cs : Array Value} (hb : Blk w k t cs) (ht : ¬ (t = 118 ∨ t = 124 ∨ t = 126)) : ¬ u.fp k := fun hk => by
  obtain ⟨t', cs', hb', ht'⟩ := h.typ hk
  rw [← blk_same hb hb'] at ht'
  exact ht ht'
def FmPost (w : World) (u : Dsk) (n : Nat) (e : Ending) (w' : World) : Prop := ∃ u', e = .returned .nilIface ∧ DAt w' u' n (DK.sync (FmD n 2)) ∧ DMoved w u u' w'
def FmR (w : World) (u : Dsk) (n k gx gb : Nat) (wr : World) : Prop := ∃ u', DAt wr u' n (FmD n k) ∧ DMoved w u u' wr ∧ Blk wr gx 33 #[.slice (some ⟨gb, 0, none⟩) 7 7, .slice none 0 0] ∧ Blk wr gb 5 (DK.pgv (hbs 0 0)).toArray
theorem wrTo_ws (n : Nat) (d : DK.D) (i : Int) (b : List Int) : (wrTo n d i b).ws.length ≤ d.ws.length + 1 := by
  unfold wrTo
  split; · omega
  split; · omega
  split
  · unfold DK.step; split <;> simp
  · unfold DK.step; split <;> simp [DK.write]
/-- A disk that nothing stops. -/
def Fre (d : DK.D) : Prop := d.left = -1 ∧ d.down = false
theorem Fre.stopped {d : DK.D} (h : Fre d) : DK.stopped d = false := by simp [DK.stopped, h.1, h.2]
theorem Fre.step {d : DK.D} (h : Fre d) : DK.step d = d := by
  obtain ⟨a, b, c, l, e⟩ := d
  obtain ⟨h1, h2⟩ := h
  simp only at h1 h2
  subst h1; subst h2
  simp [DK.step, DK.stopped]
  decide
theorem fm_ws (n k : Nat) : (FmD n k).ws.length ≤ 2 := by
  match k with
  | 0 => simp [FmD, DK.new]
  | 1 => exact Nat.le_trans (wrTo_ws _ _ _ _) (by simp [DK.new])
  | k + 2 => exact Nat.le_trans (wrTo_ws _ _ _ _) (Nat.succ_le_succ (Nat.le_trans (wrTo_ws _ _ _ _) (by simp [DK.new])))
theorem Fre.wrTo {n : Nat} {d : DK.D} (h : Fre d) (i : Int) (b : List Int) : Fre (wrTo n d i b) := by
  unfold Go.Proofs.YtenjblonepegfaaDoor.wrTo
  split; · exact h
  split; · exact h
  rw [h.stopped, h.step]
  exact h
theorem free_new (n : Nat) : Fre (DK.new n) := ⟨rfl, rfl⟩
theorem fm_free (n k : Nat) : Fre (FmD n k) := by
  match k with
  | 0 => exact free_new n
  | 1 => exact ((free_new n).wrTo _ _)
  | k + 2 => exact (((free_new n).wrTo _ _).wrTo _ _)
set_option maxHeartbeats 1000000 in
set_option maxRecDepth 100000 in
theorem format_yes (w : World) (u : Dsk) (n : Nat) (h : DAt w u n (DK.new n)) (hn : 62 ≤ n) :
    Calls Tryd.prog 40 #[.pointer (some ⟨u.g, 0, none⟩)] w (FmPost w u n) := by
  have HH := Lib.hid h
  have h1 : ¬ ((n : Int) < 62) := by omega
  clear h
  go_enter Tryd.func40, Tryd.ntmps40
  go_wp2_with fail
  refine (dpages_any w u n _ HH.out).mono ?_
  rintro e w' ⟨rfl, rfl⟩
  go_wp2_with fail
  refine (hb_any _ 0 0 (by omega) (by omega) (by omega) (by omega)).mono ?_
  rintro e w1 ⟨gb, rfl, hb, hbe, hge⟩
  have HR0 : Hid (FmR w u n 0 w1.heap.size gb (w1.alloc (.cells #[.slice (some ⟨gb, 0, none⟩) 7 7, .slice none 0 0] 33))) :=
    ⟨u, (HH.out.ext hbe).ext ((Below.refl _ _).alloc (Nat.le_refl _) _), DMoved.of_ext u (Ext.trans hbe (Ext.alloc _ _)), Blk.new _ _ _, hb.alloc _⟩
  clear hb hbe hge
  go_wp2_with fail
  go_loopw [14] (fun v wr => ∃ k : Nat, k ≤ 2 ∧ v = .int .i64 k ∧ Hid (FmR w u n k w1.heap.size gb wr)) (fun v _ => 2 - (intOf v).toNat)
  case atStart => exact ⟨0, by omega, rfl, HR0⟩
  case round =>
    obtain ⟨k, hk, rfl, hR⟩ := hrel
    clear HR0
    by_cases h0 : k = 0
    · subst h0
      obtain ⟨u', hu, hm, hx, hb⟩ := hR.out
      have HU := Lib.hid hu
      have HM := Lib.hid hm
      have HB := Lib.hid hb
      have HX := Lib.hid hx
      have e0 : wr.cell? ⟨w1.heap.size, 0, none⟩ = some (.slice (some ⟨gb, 0, none⟩) 7 7) := hx.cell 0
      have HG := Lib.hid hm.1
      clear hu hm hb hx
      go_wp2_with fail
      have a1 : (FmD n 0).ws.length ≤ 10000 := by have := fm_ws n 0; omega
      have hdw := dwrite_any wr u' n (FmD n 0) HU.out 0 (some ⟨gb, 0, none⟩) 7 7 (hbs 0 0) rfl a1 (bytes_blk HB.out) (by rintro _ x hx; injection hx with hx; subst hx; exact HB.out.ne_ HU.out.blk (by decide))
      rw [HG.out] at hdw
      refine hdw.mono ?_
      rintro e w2 ⟨u2, rfl, hu2, hm2⟩
      have HM2 : Hid (DMoved w u u2 w2) := HM.out.trans hm2
      rw [fm_err0 hn, optErr_none]
      have HR2 : Hid (FmR w u n 1 w1.heap.size gb w2) := ⟨u2, hu2, HM2.out, HX.out.chg hm2.2.1 (HU.out.notyp HX.out (by decide)), HB.out.chg hm2.2.1 (HU.out.notyp HB.out (by decide))⟩
      clear hu2 hm2 HM2 a1 hdw HB HX HU e0
      go_wp2
      go_roundw
      case rel => exact ⟨1, by omega, by rfl, HR2⟩
      case measure => simp [intOf]
    by_cases h1 : k = 1
    · subst h1
      obtain ⟨u', hu, hm, hx, hb⟩ := hR.out
      have HU := Lib.hid hu
      have HM := Lib.hid hm
      have HB := Lib.hid hb
      have HX := Lib.hid hx
      have e0 : wr.cell? ⟨w1.heap.size, 1, none⟩ = some (.slice none 0 0) := hx.cell 1
      have HG := Lib.hid hm.1
      clear hu hm hb hx
      go_wp2_with fail
      have a1 : (FmD n 1).ws.length ≤ 10000 := by have := fm_ws n 1; omega
      have hdw := dwrite_any wr u' n (FmD n 1) HU.out 1 none 0 0 [] rfl a1 (.inl rfl) (by simp)
      rw [HG.out] at hdw
      refine hdw.mono ?_
      rintro e w2 ⟨u2, rfl, hu2, hm2⟩
      have HM2 : Hid (DMoved w u u2 w2) := HM.out.trans hm2
      rw [fm_err1 hn, optErr_none]
      have HR2 : Hid (FmR w u n 2 w1.heap.size gb w2) := ⟨u2, hu2, HM2.out, HX.out.chg hm2.2.1 (HU.out.notyp HX.out (by decide)), HB.out.chg hm2.2.1 (HU.out.notyp HB.out (by decide))⟩
      clear hu2 hm2 HM2 a1 hdw HB HX HU e0
      go_wp2
      go_roundw
      case rel => exact ⟨2, by omega, by rfl, HR2⟩
      case measure => simp [intOf]
    have h2 : k = 2 := by omega
    subst h2
    obtain ⟨u', hu, hm, hx, hb⟩ := hR.out
    have HU := Lib.hid hu
    have HM := Lib.hid hm
    have HG := Lib.hid hm.1
    clear hu hm hb hx h0 h1
    go_wp2_with fail
    have hdw := dsync_any wr u' n (FmD n 2) HU.out
    rw [HG.out] at hdw
    refine hdw.mono ?_
    rintro e w2 ⟨u2, rfl, hu2, hm2⟩
    rw [(fm_free n 2).stopped] at hu2 ⊢
    rw [(fm_free n 2).step] at hu2
    have HU2 : Hid (DAt w2 u2 n (DK.sync (FmD n 2))) := hu2
    have HM2 : Hid (DMoved w u u2 w2) := HM.out.trans hm2
    clear hu2 hm2 hdw
    go_wp2
    go_ret
    exact ⟨u2, rfl, HU2.out, HM2.out⟩
end Go.Proofs.YtenjblonepegfaaDoor
