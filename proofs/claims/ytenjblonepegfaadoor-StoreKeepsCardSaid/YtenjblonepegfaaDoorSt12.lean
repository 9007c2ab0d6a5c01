/-
  Walk of (*Store).Save. Conditions: the disk lies as 'DAt' says, the store as 'SoAt', the bytes as 'BytesAt' says, not in the disk's blocks.
-/
import Derived.Test.YtenjblonepegfaaDoorSt11
import Derived.Deep.RegionLaw
namespace Go.Proofs.YtenjblonepegfaaDoor
open Go Go.RowKit
set_option linter.unusedVariables false

set_option maxRecDepth 100000 in
theorem bclone_none (w : World) (c : Nat) : Calls Tryd.prog 66 #[.slice none 0 c] w (BRow w []) := by
  have u48 := fun (w : World) (a : Option Addr) (n c n' c' : Nat) => Lib.run_eql_slice_nil (P := Tryd.prog) w 33 5 a n c n' c' Tryd.underlying33
  go_enter Tryd.func66, Tryd.ntmps66
  go_wp2
  go_ret
  exact ⟨_, rfl, World.ownsRow_nil _ _ _ _, Ext.refl w, fun k hk => by simp [Value.ownBlock] at hk⟩
theorem bclone_bytes (w : World) (A : Option Addr) (m c : Nat) (b : List Int) (hm : b.length = m) (hn : m ≤ 100000) (h : BytesAt w A b) : Calls Tryd.prog 66 #[.slice A m c] w (BRow w b) := by
  rcases A with _ | ad
  · rcases h with rfl | ⟨g, o, h, _⟩
    · simp at hm; subst hm; exact bclone_none w c
    · simp at h
  · refine bclone_row w ad m c b hm hn (fun j u hj => ?_)
    rcases h with rfl | ⟨g, o, h, hl, hx⟩
    · simp [DK.pgv] at hj
    · injection h with h; subst h
      simp only [DK.pgv, List.getElem?_map, Option.map_eq_some_iff] at hj
      obtain ⟨y, hy, rfl⟩ := hj
      rw [Addr.add_mid, ((Ext.alloc w _).cell (p := ⟨g, o + j, none⟩) hl)]
      exact hx j y hy
theorem DAt.notown {w : World} {u : Dsk} {n : Nat} {d : DK.D} (h : DAt w u n d) {v : Value} {m : Nat} {xs : List Value} (hv : w.ownsRow 0 5 1 v m xs) : ∀ k, v.ownBlock = some k → ¬ u.fp k := fun k hk => by
  rcases hv.2 with ⟨rfl, _⟩ | ⟨g, cap, cur, rfl, _, hg, _⟩
  · simp [Value.ownBlock] at hk
  · simp [Value.ownBlock] at hk; subst hk
    exact h.notyp (cs := cur) hg (by decide)
theorem SoAt.apart {w : World} {g gd : Nat} {t : Int} {v : Value} {down : Bool} {p : List Int} (h : SoAt w g gd t v down p) : v.ownBlock ≠ some g := own_ne h.row h.blk (by decide)
theorem SoAt.setDown {w : World} {g gd : Nat} {t : Int} {v : Value} {down : Bool} {p : List Int} (h : SoAt w g gd t v down p) (x : Bool) : SoAt (w.setCell ⟨g, 4, none⟩ (.bool x)) g gd t v x p :=
  ⟨by simpa using h.blk.set_ 4 (.bool x), own_far h.row h.apart _⟩
theorem SoAt.setAll {w : World} {g gd : Nat} {t : Int} {v : Value} {p : List Int} (h : SoAt w g gd t v false p) {t' : Int} {v' : Value} {b : List Int} {m : Nat} (hm : b.length = m) (hv : w.ownsRow 0 5 1 v' b.length (DK.pgv b)) (hn : v'.ownBlock ≠ some g) :
    SoAt (((w.setCell ⟨g, 1, none⟩ (.int .i64 t')).setCell ⟨g, 2, none⟩ (.int .i64 m)).setCell ⟨g, 3, none⟩ v') g gd t' v' false b := by
  subst hm
  exact ⟨by simpa using ((h.blk.set_ 1 (.int .i64 t')).set_ 2 (.int .i64 b.length)).set_ 3 v', own_far (own_far (own_far hv hn _) hn _) hn _⟩
theorem own_is_slice {w : World} {base : Nat} {e : TypeId} {size : Nat} {v : Value} {n : Nat} {xs : List Value} (h : w.ownsRow base e size v n xs) : ∃ a l c, v = .slice a l c := by
  rcases h.2 with ⟨rfl, _⟩ | ⟨g, cap, cur, rfl, _⟩
  · exact ⟨_, _, _, rfl⟩
  · exact ⟨_, _, _, rfl⟩
theorem callsClone (w : World) (vs : Array Value) : (callFunc 66 vs).run Tryd.prog w = .ok (.enter 66 vs) w := by
  have h1 : (Tryd.f66.name == "runtime.NumGoroutine") = false := by kernel_rfl
  have h2 : Tryd.f66.body.isNone = false := by kernel_rfl
  have h3 : ¬ Tryd.f66.body = none := by intro h; rw [h] at h2; cases h2
  have h4 : ¬ Tryd.f66.name = "runtime.NumGoroutine" := by simpa using h1
  simp [callFunc, Tryd.func66, h3, h4]
/-- What Save leaves where it lays bytes. -/
def SavePost (w : World) (u : Dsk) (n : Nat) (g : Nat) (t : Nat) (v : Value) (p b : List Int) (r : Option Int × DK.D) (e : Ending) (w' : World) : Prop :=
  ∃ u' v', e = .returned (optErr r.1) ∧ DAt w' u' n r.2 ∧ u'.g = u.g ∧ Chg (fun k => u.fp k ∨ k = g) w w' ∧ (∀ k, u'.fp k → u.fp k ∨ w.heap.size ≤ k) ∧
    (match r.1 with | some _ => SoAt w' g u.g t v true p | none => SoAt w' g u.g ((t : Int) + 1) v' false b ∧ ∀ k, v'.ownBlock = some k → w.heap.size ≤ k)
set_option maxHeartbeats 400000 in
theorem save_full (w : World) (g : Nat) (A : Option Addr) (m c : Nat) (hm : 960 < m) :
    Calls Tryd.prog 42 #[.pointer (some ⟨g, 0, none⟩), .slice A m c] w fun e w' => e = .returned (derrV 3) ∧ w = w' := by
  have h1 : (960 : Int) < (m : Int) := by omega
  go_enter Tryd.func42, Tryd.ntmps42
  go_wp2
  go_ret
  exact ⟨rfl, rfl⟩
theorem save_down (w : World) (g gd : Nat) (t : Int) (v : Value) (p : List Int) (h : SoAt w g gd t v true p) (A : Option Addr) (m c : Nat) (hm : m ≤ 960) :
    Calls Tryd.prog 42 #[.pointer (some ⟨g, 0, none⟩), .slice A m c] w fun e w' => e = .returned (derrV 8) ∧ w = w' := by
  have h1 : ¬ (960 : Int) < (m : Int) := by omega
  have h2 : w.cell? ⟨g, 4, none⟩ = some (.bool true) := h.blk.cell 4
  clear h
  go_enter Tryd.func42, Tryd.ntmps42
  go_wp2
  go_ret
  exact ⟨rfl, rfl⟩
set_option maxHeartbeats 1000000 in
set_option maxRecDepth 100000 in
theorem save_any (w : World) (u : Dsk) (n : Nat) (d : DK.D) (h : DAt w u n d) (g : Nat) (t : Nat) (v : Value) (p : List Int) (hS : SoAt w g u.g t v false p) (ht : t ≤ 100) (A : Option Addr) (m c : Nat) (b : List Int) (hm : b.length = m) (hm2 : m ≤ 960) (hmc : m ≤ c) (hcm : c ≤ maxLen)
    (hA : BytesAt w A b) (hAb : b ≠ [] → ∀ x, A = some x → ¬ u.fp x.block ∧ x.block ≠ g) (hws : d.ws.length ≤ 900) :
    Calls Tryd.prog 42 #[.pointer (some ⟨g, 0, none⟩), .slice A m c] w (SavePost w u n g t v p b (layR n d ((t : Int) + 1) b)) := by
  have HH := Lib.hid h
  have HS := Lib.hid hS
  have HA := Lib.hid hA
  have HAB := Lib.hid hAb
  have HM := Lib.hid hm
  have HWS := Lib.hid hws
  have HCM := Lib.hid hcm
  have h1 : ¬ (960 : Int) < (m : Int) := by omega
  have c1 : w.cell? ⟨g, 1, none⟩ = some (.int .i64 t) := hS.blk.cell 1
  have c4 : w.cell? ⟨g, 4, none⟩ = some (.bool false) := hS.blk.cell 4
  have HT1 : Hid (((t + 1 : Nat) : Int) = (t : Int) + 1) := by unfold Hid; omega
  clear h hS hA hAb hm hws hcm
  go_enter Tryd.func42, Tryd.ntmps42
  go_wp2_with fail
  have HE1 : Hid (Ext w (w.alloc (.cells #[.int .i64 ((t : Int) + 1), .int .i64 m] 156))) := Ext.alloc _ _
  have HB1 : Hid (Blk (w.alloc (.cells #[.int .i64 ((t : Int) + 1), .int .i64 m] 156)) w.heap.size 156 #[.int .i64 ((t : Int) + 1), .int .i64 m]) := Blk.new _ _ _
  generalize hw1 : w.alloc (.cells #[.int .i64 ((t : Int) + 1), .int .i64 m] 156) = w1 at HE1 HB1 ⊢
  clear hw1
  have HS1 := Lib.hid (HS.out.ext HE1.out)
  have HD1 := Lib.hid (HH.out.ext HE1.out)
  have hl := lay_any w1 u n d HD1.out g _ HS1.out.blk rfl (t + 1) (by omega) A m c b HM.out hm2 hmc HCM.out (HA.out.ext HE1.out) (fun hne x hx => (HAB.out hne x hx).1) HWS.out
  rw [HT1.out] at hl
  refine hl.mono ?_
  clear hl
  rintro e w2 ⟨u2, rfl, hu2, hm2⟩
  have HD2 := Lib.hid hu2
  have HM2 := Lib.hid hm2
  have HNF : Hid (¬ u.fp g) := HD1.out.notyp HS1.out.blk (by decide)
  have HNV : Hid (∀ k, v.ownBlock = some k → ¬ u.fp k) := HD1.out.notown HS1.out.row
  have HS2 : Hid (SoAt w2 g u.g t v false p) := HS1.out.chg HM2.out.2.1 HNF.out HNV.out
  clear hu2 hm2
  rcases hr : (layR n d ((t : Int) + 1) b).1 with _ | x
  · rw [optErr_none]
    have HB2 : Hid (Blk w2 w.heap.size 156 #[.int .i64 ((t : Int) + 1), .int .i64 m]) := HB1.out.chg HM2.out.2.1 (HD1.out.notyp HB1.out (by decide))
    have HA2 : Hid (BytesAt w2 A b) := (HA.out.ext HE1.out).chg HM2.out.2.1 (fun hne x hx => (HAB.out hne x hx).1)
    have x0 : w2.cell? ⟨w.heap.size, 0, none⟩ = some (.int .i64 ((t : Int) + 1)) := HB2.out.cell 0
    have x1 : w2.cell? ⟨w.heap.size, 1, none⟩ = some (.int .i64 m) := HB2.out.cell 1
    have f1 : w2.cell? ⟨g, 1, none⟩ = some (.int .i64 t) := HS2.out.blk.cell 1
    have f2 : w2.cell? ⟨g, 2, none⟩ = some (.int .i64 (p.length : Int)) := HS2.out.blk.cell 2
    have f3 : w2.cell? ⟨g, 3, none⟩ = some v := HS2.out.blk.cell 3
    have g1 := HS2.out.blk.frozen 1
    have g2 := HS2.out.blk.frozen 2
    have g3 := HS2.out.blk.frozen 3
    have HR := Lib.hid hr
    clear hr c1 c4
    go_wp2_with fail
    go_region_law (first
      | (refine step_call (by rfl) 66 _ _ (by rfl) #[.slice A m c] (by simp; rfl) (callsClone _ _) (bclone_bytes _ A m c b HM.out (by omega) HA2.out) ?_; rintro e w3 ⟨v3, rfl, hrow, hext, hnew⟩; obtain ⟨a3, l3, c3, rfl⟩ := own_is_slice hrow; refine ⟨_, rfl, ?_⟩; have HE3 : Hid (Ext w2 w3) := (Ext.drew w2).trans hext; have HR3 := Lib.hid hrow; have HN3 : Hid (∀ k, (Value.slice a3 l3 c3).ownBlock = some k → w2.heap.size ≤ k) := hnew; clear hrow hext hnew; have HS3 := Lib.hid (HS2.out.ext HE3.out); have HB3 : Hid (Blk w3 w.heap.size 156 #[.int .i64 ((t : Int) + 1), .int .i64 m]) := HB2.out.chg (Chg.of_below HE3.out) (by have := HB2.out.lt; omega); have y0 : w3.cell? ⟨w.heap.size, 0, none⟩ = some (.int .i64 ((t : Int) + 1)) := HB3.out.cell 0; have y1 : w3.cell? ⟨w.heap.size, 1, none⟩ = some (.int .i64 m) := HB3.out.cell 1; have q1 : w3.cell? ⟨g, 1, none⟩ = some (.int .i64 t) := HS3.out.blk.cell 1; have q2 : w3.cell? ⟨g, 2, none⟩ = some (.int .i64 (p.length : Int)) := HS3.out.blk.cell 2; have q3 : w3.cell? ⟨g, 3, none⟩ = some v := HS3.out.blk.cell 3; have r1 := HS3.out.blk.frozen 1; have r2 := HS3.out.blk.frozen 2; have r3 := HS3.out.blk.frozen 3))
    all_goals
      have HE : Hid (SavePost w u n g t v p b (layR n d ((t : Int) + 1) b) (.returned .nilIface) (((w3.setCell ⟨g, 1, none⟩ (.int .i64 ((t : Int) + 1))).setCell ⟨g, 2, none⟩ (.int .i64 m)).setCell ⟨g, 3, none⟩ (.slice a3 l3 c3))) := by
        have hng : (Value.slice a3 l3 c3).ownBlock ≠ some g := fun hk => by
          have h1 := HN3.out g hk
          have h2 := HS2.out.blk.lt
          omega
        have hch : Chg (fun k => k = g) w3 (((w3.setCell ⟨g, 1, none⟩ (.int .i64 ((t : Int) + 1))).setCell ⟨g, 2, none⟩ (.int .i64 m)).setCell ⟨g, 3, none⟩ (.slice a3 l3 c3)) :=
          ((chg_cell w3 g 1 _).setCell (p := ⟨g, 2, none⟩) (fun _ => rfl) _).setCell (p := ⟨g, 3, none⟩) (fun _ => rfl) _
        have hd3 := HD2.out.ext HE3.out
        have hsz : w.heap.size ≤ w2.heap.size := by have h1 := HE1.out.size; have h2 := HM2.out.2.1.size; omega
        refine ⟨u2, _, by rw [HR.out]; rfl, hd3.chg hch (fun k hk hg => ?_), HM2.out.1, ?_, fun k hk => ?_, by rw [HR.out]; exact ⟨HS3.out.setAll HM.out HR3.out hng, fun k hk => Nat.le_trans hsz (HN3.out k hk)⟩⟩
        · subst hg
          exact hd3.notyp HS3.out.blk (by decide) hk
        · exact ((((Chg.new HE1.out _).trans (S := fun k => u.fp k ∨ k = g) HM2.out.2.1 (fun k _ hk => .inl hk)).trans (Chg.new HE3.out (fun _ => False)) (fun _ _ h => h.elim)).trans hch (fun k _ hk => .inr hk))
        · rcases HM2.out.2.2 k hk with h | h
          · exact .inl h
          · right; have := HE1.out.size; omega
      clear HR x0 x1 f1 f2 f3 g1 g2 g3 y0 y1 q1 q2 q3 r1 r2 r3
      go_wp2
      go_ret
      exact HE.out
  · rw [optErr_some]
    have c4' : w2.cell? ⟨g, 4, none⟩ = some (.bool false) := HS2.out.blk.cell 4
    have f4 := HS2.out.blk.frozen 4
    have HE : Hid (SavePost w u n g t v p b (layR n d ((t : Int) + 1) b) (.returned (derrV x)) (w2.setCell ⟨g, 4, none⟩ (.bool true))) := by
      refine ⟨u2, v, by rw [hr]; rfl, HD2.out.chg (chg_cell w2 g 4 _) (fun k hk hg => ?_), HM2.out.1, ?_, fun k hk => ?_, by rw [hr]; exact HS2.out.setDown true⟩
      · subst hg
        exact HD2.out.notyp HS2.out.blk (by decide) hk
      · exact (((Chg.new HE1.out _).trans (S := fun k => u.fp k ∨ k = g) HM2.out.2.1 (fun k _ hk => .inl hk)).trans (chg_cell w2 g 4 _) (fun k _ hk => .inr hk))
      · rcases HM2.out.2.2 k hk with h | h
        · exact .inl h
        · right; have := HE1.out.size; omega
    clear hr c1 c4
    go_wp2
    go_ret
    exact HE.out
end Go.Proofs.YtenjblonepegfaaDoor
