/-
  Walk of store.read at a blank page. Conditions: the disk lies as 'DAt' says; the page is blank.
-/
import Derived.Test.YtenjblonepegfaaDoorSt2
import Derived.Lib.Bytes
import Derived.Deep.RegionLaw
namespace Go.Proofs.YtenjblonepegfaaDoor
open Go Go.RowKit
set_option linter.unusedVariables false

theorem callsHb (w : World) (vs : Array Value) : (callFunc 79 vs).run Tryd.prog w = .ok (.enter 79 vs) w := by
  have h1 : (Tryd.f79.name == "runtime.NumGoroutine") = false := by kernel_rfl
  have h2 : Tryd.f79.body.isNone = false := by kernel_rfl
  have h3 : ¬ Tryd.f79.body = none := by intro h; rw [h] at h2; cases h2
  have h4 : ¬ Tryd.f79.name = "runtime.NumGoroutine" := by simpa using h1
  simp [callFunc, Tryd.func79, h3, h4]
theorem callsEq (w : World) (vs : Array Value) : (callFunc 100 vs).run Tryd.prog w = .ok (.enter 100 vs) w := by
  have h1 : (Tryd.f100.name == "runtime.NumGoroutine") = false := by kernel_rfl
  have h2 : Tryd.f100.body.isNone = false := by kernel_rfl
  have h3 : ¬ Tryd.f100.body = none := by intro h; rw [h] at h2; cases h2
  have h4 : ¬ Tryd.f100.name = "runtime.NumGoroutine" := by simpa using h1
  simp [callFunc, Tryd.func100, h3, h4]
theorem zero_head : ((strOfNums (hbs 0 0)).toList == (strOfNums (List.replicate 7 0)).toList) = false := by
  rw [Lib.strOfNums_toList, Lib.strOfNums_toList]; decide
set_option maxHeartbeats 2000000 in
set_option maxRecDepth 100000 in
theorem readzero_any (w : World) (u : Dsk) (n : Nat) (d : DK.D) (h : DAt w u n d) (i : Nat) (hp : d.now[i]? = some DK.zero) :
    Calls Tryd.prog 80 #[.pointer (some ⟨u.g, 0, none⟩), .int .i64 i] w (ReadHead w (-1) 0) := by
  have HH := Lib.hid h
  have HP := Lib.hid hp
  clear h hp
  go_enter Tryd.func80, Tryd.ntmps80
  go_wp2_with fail
  refine (dread_yes _ u n d (HH.out.ext ((Below.refl _ _).alloc (Nat.le_refl _) _)) i _ HP.out).mono ?_
  rintro e w1 ⟨bg, bc, rfl, hbl, hown, hbel⟩
  have HB := Lib.hid hbel
  have HO := Lib.hid hown
  have e1 : w1.cell? ⟨bg, 1, none⟩ = some (.int .u8 0) := hown.cellAt 1 (by omega)
  have e2 : w1.cell? ⟨bg, 2, none⟩ = some (.int .u8 0) := hown.cellAt 2 (by omega)
  have e3 : w1.cell? ⟨bg, 3, none⟩ = some (.int .u8 0) := hown.cellAt 3 (by omega)
  have e4 : w1.cell? ⟨bg, 4, none⟩ = some (.int .u8 0) := hown.cellAt 4 (by omega)
  have e5 : w1.cell? ⟨bg, 5, none⟩ = some (.int .u8 0) := hown.cellAt 5 (by omega)
  have e6 : w1.cell? ⟨bg, 6, none⟩ = some (.int .u8 0) := hown.cellAt 6 (by omega)
  clear hown hbel hbl
  go_wp2
  go_region_held3 (fun w' => w'.cell? ⟨bg, 1, none⟩ = some (.int .u8 0) ∧ w'.cell? ⟨bg, 2, none⟩ = some (.int .u8 0) ∧ w'.cell? ⟨bg, 3, none⟩ = some (.int .u8 0) ∧ w'.cell? ⟨bg, 4, none⟩ = some (.int .u8 0) ∧ w'.cell? ⟨bg, 5, none⟩ = some (.int .u8 0) ∧ w'.cell? ⟨bg, 6, none⟩ = some (.int .u8 0)) (go_keep) (fail)
  rw [show bits BinOp.or IntKind.i64 (bits BinOp.or IntKind.i64 (bits BinOp.or IntKind.i64 (IntKind.i64.wrap (IntKind.i64.wrap 0 * 16777216)) (IntKind.i64.wrap (IntKind.i64.wrap 0 * 65536))) (IntKind.i64.wrap (IntKind.i64.wrap 0 * 256))) (IntKind.i64.wrap 0) = 0 from by decide, show bits BinOp.or IntKind.i64 (IntKind.i64.wrap (IntKind.i64.wrap 0 * 256)) (IntKind.i64.wrap 0) = 0 from by decide]
  have b21 : Below w1.heap.size w1 (w1.alloc (.cells #[.int .i64 0, .int .i64 0] 156)).drew := ((Below.refl _ _).alloc (Nat.le_refl _) _).drew
  have HX : Hid (Blk (w1.alloc (.cells #[.int .i64 0, .int .i64 0] 156)).drew w1.heap.size 156 #[.int .i64 0, .int .i64 0]) := (Blk.new w1 156 #[.int .i64 0, .int .i64 0]).drew
  have HR : Hid (Blk (w1.alloc (.cells #[.int .i64 0, .int .i64 0] 156)).drew w.heap.size 156 #[.int .i64 0, .int .i64 0]) := by
    have := (Blk.new w 156 #[.int .i64 0, .int .i64 0]).chg (Chg.of_below HB.out) (by simp)
    exact this.chg (Chg.of_below b21) (by have := this.lt; omega)
  have HS : Hid (StrAt (w1.alloc (.cells #[.int .i64 0, .int .i64 0] 156)).drew bg 0 7 (List.replicate 7 0)) := by
    refine ⟨rfl, fun j hj => ?_⟩
    have hlt := own_lt (k := bg) HO.out (by simp [Value.ownBlock])
    rw [b21.cell (p := ⟨bg, 0 + j, none⟩) hlt, Nat.zero_add]
    have := HO.out.cellAt j (by omega)
    rw [this]
    obtain rfl | rfl | rfl | rfl | rfl | rfl | rfl := (show j = 0 ∨ j = 1 ∨ j = 2 ∨ j = 3 ∨ j = 4 ∨ j = 5 ∨ j = 6 by omega) <;> rfl
  have hbc : 32 ≤ bc := by obtain ⟨A, c, h1, h2⟩ := own_slice3 HO.out; injection h1 with h1 h2' h3; omega
  have HE2 : Hid (Ext w (w1.alloc (.cells #[.int .i64 0, .int .i64 0] 156)).drew) := Ext.trans (Ext.trans (Ext.alloc w _) HB.out) b21
  generalize (w1.alloc (.cells #[.int .i64 0, .int .i64 0] 156)).drew = w2 at HX HR HS HE2 ⊢
  generalize w1.heap.size = hx at HX ⊢
  clear e1 e2 e3 e4 e5 e6 b21 HB HO HP HH
  have x0 : w2.cell? ⟨hx, 0, none⟩ = some (.int .i64 0) := HX.out.cell 0
  have x1 : w2.cell? ⟨hx, 1, none⟩ = some (.int .i64 0) := HX.out.cell 1
  have g3 : (7 : Int) ≤ (bc : Int) := by omega
  go_wp2
  first | (go_region_with (first
    | (go_at_call 79; refine (hb_any _ 0 0 (by omega) (by omega) (by omega) (by omega)).mono ?_; rintro e w5 ⟨gb, rfl, hb, hbe, hge⟩; have HE5 : Hid (Ext w2 w5) := (Ext.drew _).trans hbe; have HGB : Hid (StrAt w5 gb 0 7 (hbs 0 0)) := strAt_blk hb rfl; have HS5 := Lib.hid (HS.out.ext HE5.out); have HX5 := Lib.hid (HX.out.chg (Chg.of_below HE5.out) (by have := HX.out.lt; omega)); have y0 : w5.cell? ⟨hx, 0, none⟩ = some (.int .i64 0) := HX5.out.cell 0; have y1 : w5.cell? ⟨hx, 1, none⟩ = some (.int .i64 0) := HX5.out.cell 1; clear hb hbe hge)
    | (go_at_call 100; refine (bequal_any _ gb 0 7 7 bg 0 7 bc _ _ HGB.out HS5.out false zero_head).mono ?_; rintro e w6 ⟨rfl, rfl⟩))) | fail
  all_goals
    have HR5 := Lib.hid (HR.out.chg (Chg.of_below HE5.out) (by have := HR.out.lt; omega))
    have HE := Lib.hid (Ext.trans HE2.out HE5.out)
    have r0 : w5.cell? ⟨w.heap.size, 0, none⟩ = some (.int .i64 0) := HR5.out.cell 0
    have r1 : w5.cell? ⟨w.heap.size, 1, none⟩ = some (.int .i64 0) := HR5.out.cell 1
    have f0 := HR5.out.frozen 0
    have f1 := HR5.out.frozen 1
    clear HR HS HE2 HX x0 x1 HE5
    have HB5 : Hid (Blk ((w5.setCell ⟨w.heap.size, 0, none⟩ (.int .i64 (-1))).setCell ⟨w.heap.size, 1, none⟩ (.int .i64 0)) w.heap.size 156 #[.int .i64 (-1), .int .i64 0]) := by unfold Hid; simpa using (HR5.out.set_ 0 (.int .i64 (-1))).set_ 1 (.int .i64 0)
    go_wp2
    refine bodyPost_ret (results_head rfl _ _ w.heap.size rfl (HB5.out.cell 0) (HB5.out.cell 1)) rfl ?_
    refine ⟨rfl, ?_⟩
    exact (((Chg.of_below HE.out).setCell (p := ⟨w.heap.size, 0, none⟩) (fun _ => Nat.le_refl _) _).setCell (p := ⟨w.heap.size, 1, none⟩) (fun _ => Nat.le_refl _) _).below (Nat.le_refl _) (fun _ _ h => h)
end Go.Proofs.YtenjblonepegfaaDoor
