/-
  Walk of store.read. Conditions: the disk lies as 'DAt' says; the page is a head's, or blank.
-/
import Derived.Test.YtenjblonepegfaaDoorSt1
import Derived.Deep.CutBlock
import Derived.Deep.DeepCutAuto
import Derived.StillTailTactics
namespace Go.Proofs.YtenjblonepegfaaDoor
open Go Go.RowKit
set_option linter.unusedVariables false

set_option maxRecDepth 100000 in
theorem or_long : ∀ k : Nat, k < 961 → bits BinOp.or IntKind.i64 (IntKind.i64.wrap (IntKind.i64.wrap ((k : Int) / 256) * 256)) (IntKind.i64.wrap ((k : Int) % 256)) = k := by decide
set_option maxRecDepth 100000 in
theorem or_turn : ∀ k : Nat, k < 201 → bits BinOp.or IntKind.i64 (bits BinOp.or IntKind.i64 (bits BinOp.or IntKind.i64 (IntKind.i64.wrap (IntKind.i64.wrap 0 * 16777216)) (IntKind.i64.wrap (IntKind.i64.wrap 0 * 65536))) (IntKind.i64.wrap (IntKind.i64.wrap 0 * 256))) (IntKind.i64.wrap (k : Int)) = k := by decide
theorem Ext.alloc_ {w w' : World} (h : Ext w w') (o : Obj) : Ext w (w'.alloc o) := Below.alloc h h.size o
theorem strAt_blk {w : World} {g n : Nat} {p : List Int} (h : Blk w g 5 (DK.pgv p).toArray) (hl : p.length = n) : StrAt w g 0 n p := by
  refine ⟨hl, fun j hj => ?_⟩
  rw [h.cell, Nat.zero_add, List.getElem?_toArray]
  have hj' : j < p.length := by omega
  simp [DK.pgv, List.getD_eq_getElem?_getD, List.getElem?_eq_getElem hj']
theorem StrAt.ext {w w' : World} {g o n : Nat} {p : List Int} (h : StrAt w g o n p) (hb : Ext w w') : StrAt w' g o n p :=
  ⟨h.1, fun i hi => (hb.cell (p := ⟨g, o + i, none⟩) (World.block_lt_of_cell? w _ (h.2 i hi))).trans (h.2 i hi)⟩
theorem results_head {fn : Func} {c u : Tmp} (h : fn.results = #[.cell c 156, .tmp u]) (tmps : Array Value) (w : World) (g : Nat) (hp : tmps.getD c undef = .pointer (some ⟨g, 0, none⟩)) {a b : Value} (h0 : w.cell? ⟨g, 0, none⟩ = some a) (h1 : w.cell? ⟨g, 1, none⟩ = some b) :
    (results fn tmps).run Tryd.prog w = .ok (.tuple #[.agg #[a, b], tmps.getD u undef]) w := by
  have hl : (loadCells ⟨g, 0, none⟩ 2).run Tryd.prog w = .ok #[a, b] w := by
    have := run_loadCells_list (P := Tryd.prog) w ⟨g, 0, none⟩ [a, b] (fun j v hj => by
      match j, hj with
      | 0, hj => simp at hj; subst hj; simpa [Addr.add] using h0
      | 1, hj => simp at hj; subst hj; simpa [Addr.add] using h1)
    simpa using this
  have a1 := Tryd.isAgg156
  have z1 := Tryd.sizeOf156
  have hp' : tmps[c]?.getD undef = .pointer (some ⟨g, 0, none⟩) := by simpa using hp
  simp [results, h, hp', loadVar, asAddr, a1, z1, hl]
def ReadHead (w : World) (t l : Int) (e : Ending) (w' : World) : Prop := e = .returned (.tuple #[.agg #[.int .i64 t, .int .i64 l], .nilIface]) ∧ Ext w w'
set_option maxHeartbeats 2000000 in
set_option maxRecDepth 100000 in
theorem readhead_any (w : World) (u : Dsk) (n : Nat) (d : DK.D) (h : DAt w u n d) (i : Nat) (t l : Int) (ht0 : 0 ≤ t) (ht : t ≤ 200) (hl0 : 0 ≤ l) (hl : l ≤ 960) (hi : t % 2 = (i : Int)) (hp : d.now[i]? = some (DK.put (hbs t l))) :
    Calls Tryd.prog 80 #[.pointer (some ⟨u.g, 0, none⟩), .int .i64 i] w (ReadHead w t l) := by
  have HH := Lib.hid h
  have HP := Lib.hid hp
  clear h hp
  go_enter Tryd.func80, Tryd.ntmps80
  go_wp2_with fail
  refine (dread_yes _ u n d (HH.out.ext ((Below.refl _ _).alloc (Nat.le_refl _) _)) i _ HP.out).mono ?_
  rintro e w1 ⟨bg, bc, rfl, hbl, hown, hbel⟩
  have HB := Lib.hid hbel
  have HO := Lib.hid hown
  have e0 : w1.cell? ⟨bg, 0, none⟩ = some (.int .u8 83) := hown.cellAt 0 (by omega)
  have e1 : w1.cell? ⟨bg, 1, none⟩ = some (.int .u8 (t / 16777216)) := hown.cellAt 1 (by omega)
  have e2 : w1.cell? ⟨bg, 2, none⟩ = some (.int .u8 (t / 65536)) := hown.cellAt 2 (by omega)
  have e3 : w1.cell? ⟨bg, 3, none⟩ = some (.int .u8 (t / 256)) := hown.cellAt 3 (by omega)
  have e4 : w1.cell? ⟨bg, 4, none⟩ = some (.int .u8 (t % 256)) := hown.cellAt 4 (by omega)
  have e5 : w1.cell? ⟨bg, 5, none⟩ = some (.int .u8 (l / 256)) := hown.cellAt 5 (by omega)
  have e6 : w1.cell? ⟨bg, 6, none⟩ = some (.int .u8 (l % 256)) := hown.cellAt 6 (by omega)
  rw [show t / 16777216 = 0 by omega] at e1
  rw [show t / 65536 = 0 by omega] at e2
  rw [show t / 256 = 0 by omega] at e3
  rw [show t % 256 = t by omega] at e4
  clear hown hbel hbl
  go_wp2
  go_region_held3 (fun w' => w'.cell? ⟨bg, 1, none⟩ = some (.int .u8 0) ∧ w'.cell? ⟨bg, 2, none⟩ = some (.int .u8 0) ∧ w'.cell? ⟨bg, 3, none⟩ = some (.int .u8 0) ∧ w'.cell? ⟨bg, 4, none⟩ = some (.int .u8 t) ∧ w'.cell? ⟨bg, 5, none⟩ = some (.int .u8 (l / 256)) ∧ w'.cell? ⟨bg, 6, none⟩ = some (.int .u8 (l % 256))) (go_keep) (fail)
  obtain ⟨tn, rfl⟩ := Int.eq_ofNat_of_zero_le ht0
  obtain ⟨ln, rfl⟩ := Int.eq_ofNat_of_zero_le hl0
  rw [or_turn tn (by omega), or_long ln (by omega)]
  have b21 : Below w1.heap.size w1 (w1.alloc (.cells #[.int .i64 tn, .int .i64 ln] 156)).drew := ((Below.refl _ _).alloc (Nat.le_refl _) _).drew
  have HX : Hid (Blk (w1.alloc (.cells #[.int .i64 tn, .int .i64 ln] 156)).drew w1.heap.size 156 #[.int .i64 tn, .int .i64 ln]) := (Blk.new w1 156 #[.int .i64 tn, .int .i64 ln]).drew
  have HR : Hid (Blk (w1.alloc (.cells #[.int .i64 tn, .int .i64 ln] 156)).drew w.heap.size 156 #[.int .i64 0, .int .i64 0]) := by
    have := (Blk.new w 156 #[.int .i64 0, .int .i64 0]).chg (Chg.of_below HB.out) (by simp)
    exact this.chg (Chg.of_below b21) (by have := this.lt; omega)
  have HS : Hid (StrAt (w1.alloc (.cells #[.int .i64 tn, .int .i64 ln] 156)).drew bg 0 7 (hbs tn ln)) := by
    refine ⟨rfl, fun j hj => ?_⟩
    have hlt := own_lt (k := bg) HO.out (by simp [Value.ownBlock])
    rw [b21.cell (p := ⟨bg, 0 + j, none⟩) hlt, Nat.zero_add]
    have := HO.out.cellAt j (by omega)
    rw [this]
    obtain rfl | rfl | rfl | rfl | rfl | rfl | rfl := (show j = 0 ∨ j = 1 ∨ j = 2 ∨ j = 3 ∨ j = 4 ∨ j = 5 ∨ j = 6 by omega) <;> rfl
  have hbc : 32 ≤ bc := by obtain ⟨A, c, h1, h2⟩ := own_slice3 HO.out; injection h1 with h1 h2' h3; omega
  have HE2 : Hid (Ext w (w1.alloc (.cells #[.int .i64 tn, .int .i64 ln] 156)).drew) := Ext.trans (Ext.trans (Ext.alloc w _) HB.out) b21
  generalize (w1.alloc (.cells #[.int .i64 tn, .int .i64 ln] 156)).drew = w2 at HX HR HS HE2 ⊢
  generalize w1.heap.size = hx at HX ⊢
  clear e0 e1 e2 e3 e4 e5 e6 b21 HB HO HP HH
  have x0 : w2.cell? ⟨hx, 0, none⟩ = some (.int .i64 tn) := HX.out.cell 0
  have x1 : w2.cell? ⟨hx, 1, none⟩ = some (.int .i64 ln) := HX.out.cell 1
  have g1 : decide ((960 : Int) < (ln : Int)) = false := by simp only [decide_eq_false_iff_not]; omega
  have g3 : (7 : Int) ≤ (bc : Int) := by omega
  have g2 : ((tn : Int).tmod 2 != (i : Int)) = false := by rw [Int.tmod_eq_emod_of_nonneg (by omega)]; simpa using hi
  go_wp2
  go_region_held3 (fun w' => w'.cell? ⟨hx, 0, none⟩ = some (.int .i64 tn) ∧ w'.cell? ⟨hx, 1, none⟩ = some (.int .i64 ln)) (go_keep)
    (first
      | (go_at_call 79; refine (hb_any _ tn ln (by omega) (by omega) (by omega) (by omega)).mono ?_; rintro e w5 ⟨gb, rfl, hb, hbe, hge⟩; have HE5 : Hid (Ext w2 w5) := (Ext.drew _).trans hbe; have HGB : Hid (StrAt w5 gb 0 7 (hbs tn ln)) := strAt_blk hb rfl; have HS5 := Lib.hid (HS.out.ext HE5.out); have HX5 := Lib.hid (HX.out.chg (Chg.of_below HE5.out) (by have := HX.out.lt; omega)); have y0 : w5.cell? ⟨hx, 0, none⟩ = some (.int .i64 tn) := HX5.out.cell 0; have y1 : w5.cell? ⟨hx, 1, none⟩ = some (.int .i64 ln) := HX5.out.cell 1; clear hb hbe hge)
      | (go_at_call 100; refine (bequal_any _ gb 0 7 7 bg 0 7 bc _ _ HGB.out HS5.out true (by simp)).mono ?_; rintro e w6 ⟨rfl, rfl⟩))
  have HR5 := Lib.hid (HR.out.chg (Chg.of_below HE5.out) (by have := HR.out.lt; omega))
  have HE := Lib.hid (Ext.trans HE2.out HE5.out)
  have r0 : w5.cell? ⟨w.heap.size, 0, none⟩ = some (.int .i64 0) := HR5.out.cell 0
  have r1 : w5.cell? ⟨w.heap.size, 1, none⟩ = some (.int .i64 0) := HR5.out.cell 1
  have f0 := HR5.out.frozen 0
  have f1 := HR5.out.frozen 1
  clear HR HS HE2 HX x0 x1 HE5
  have HB5 : Hid (Blk ((w5.setCell ⟨w.heap.size, 0, none⟩ (.int .i64 tn)).setCell ⟨w.heap.size, 1, none⟩ (.int .i64 ln)) w.heap.size 156 #[.int .i64 tn, .int .i64 ln]) := by unfold Hid; simpa using (HR5.out.set_ 0 (.int .i64 tn)).set_ 1 (.int .i64 ln)
  go_wp2
  refine bodyPost_ret (results_head rfl _ _ w.heap.size rfl (HB5.out.cell 0) (HB5.out.cell 1)) rfl ?_
  refine ⟨rfl, ?_⟩
  exact (((Chg.of_below HE.out).setCell (p := ⟨w.heap.size, 0, none⟩) (fun _ => Nat.le_refl _) _).setCell (p := ⟨w.heap.size, 1, none⟩) (fun _ => Nat.le_refl _) _).below (Nat.le_refl _) (fun _ _ h => h)
end Go.Proofs.YtenjblonepegfaaDoor
