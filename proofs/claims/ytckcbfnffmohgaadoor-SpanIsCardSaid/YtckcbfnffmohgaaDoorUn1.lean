/-
  Walks of union.root, node, Same, Size, Parts, Mark over a union in memory ('UAt': it reads as a list of hangs). Condition: the union lies in memory as 'UAt' says; root is asked for a node that there is.
-/
import Derived.Test.YtckcbfnffmohgaaDoorRows
import Derived.Test.YtckcbfnffmohgaaDoorUf
import Derived.Test.YtckcbfnffmohgaaDoorMem
import Derived.WalkKit
import Derived.WalkSpells
import Derived.Lib.Hide
import Derived.Outline
import Derived.Deep.QuietTactic
import Derived.BigQuiet
import Derived.Deep.RegionHeld3
import Derived.Deep.DeepFit
namespace Go.Proofs.YtckcbfnffmohgaaDoor
open Go Go.RowKit

/-- Where a union lies: its struct's block, the rows up and size, the row done. -/
structure Uni where
  g : Nat
  gu : Nat
  cu : Nat
  gs : Nat
  cs : Nat
  dv : Value

/-- Its blocks. -/
def Uni.fp (u : Uni) (k : Nat) : Prop := k = u.g ∨ k = u.gu ∨ k = u.gs ∨ u.dv.ownBlock = some k
def i64v (f : Nat → Nat) (n : Nat) : List Value := (List.range n).map fun i => .int .i64 (f i : Nat)
theorem i64v_get {f : Nat → Nat} {n i : Nat} (h : i < n) : (i64v f n)[i]? = some (.int .i64 (f i : Nat)) := by simp [i64v, h]

structure UAt (w : World) (u : Uni) (n : Nat) (hs : UF.Hs) : Prop where
  ok : UF.Ok n hs
  pos : 0 < n
  le : n ≤ 60
  blk : Blk w u.g 79 #[.slice (some ⟨u.gu, 0, none⟩) n u.cu, .slice (some ⟨u.gs, 0, none⟩) n u.cs, u.dv, .int .i64 ((n : Int) - (hs.length : Int))]
  rup : w.ownsRow 0 3 1 (.slice (some ⟨u.gu, 0, none⟩) n u.cu) n (i64v (UF.up hs) n)
  rsz : w.ownsRow 0 3 1 (.slice (some ⟨u.gs, 0, none⟩) n u.cs) n (i64v (UF.sz hs) n)
  rdn : w.ownsRow 0 3 1 u.dv hs.length (hs.reverse.map fun p => .int .i64 (p.2 : Nat))
  n1 : u.gu ≠ u.gs
  n2 : u.dv.ownBlock ≠ some u.gu
  n3 : u.dv.ownBlock ≠ some u.gs

theorem UAt.up_cell {w : World} {u : Uni} {n : Nat} {hs : UF.Hs} (h : UAt w u n hs) {i : Nat} (hi : i < n) : w.cell? ⟨u.gu, i, none⟩ = some (.int .i64 (UF.up hs i : Nat)) := by
  rw [h.rup.cellAt i (by omega), i64v_get hi]
theorem UAt.sz_cell {w : World} {u : Uni} {n : Nat} {hs : UF.Hs} (h : UAt w u n hs) {i : Nat} (hi : i < n) : w.cell? ⟨u.gs, i, none⟩ = some (.int .i64 (UF.sz hs i : Nat)) := by
  rw [h.rsz.cellAt i (by omega), i64v_get hi]
theorem UAt.ggu {w : World} {u : Uni} {n : Nat} {hs : UF.Hs} (h : UAt w u n hs) : u.gu ≠ u.g := by
  have := own_ne h.rup h.blk (by decide); simpa [Value.ownBlock] using this
theorem UAt.ggs {w : World} {u : Uni} {n : Nat} {hs : UF.Hs} (h : UAt w u n hs) : u.gs ≠ u.g := by
  have := own_ne h.rsz h.blk (by decide); simpa [Value.ownBlock] using this
theorem UAt.ggd {w : World} {u : Uni} {n : Nat} {hs : UF.Hs} (h : UAt w u n hs) : u.dv.ownBlock ≠ some u.g := own_ne h.rdn h.blk (by decide)
theorem UAt.lt {w : World} {u : Uni} {n : Nat} {hs : UF.Hs} (h : UAt w u n hs) {k : Nat} (hk : u.fp k) : k < w.heap.size := by
  rcases hk with rfl | rfl | rfl | hk
  · exact h.blk.lt
  · exact own_lt h.rup (by simp [Value.ownBlock])
  · exact own_lt h.rsz (by simp [Value.ownBlock])
  · exact own_lt h.rdn hk
theorem UAt.chg {S : Nat → Prop} {w w' : World} {u : Uni} {n : Nat} {hs : UF.Hs} (h : UAt w u n hs) (hc : Chg S w w') (hn : ∀ k, u.fp k → ¬ S k) : UAt w' u n hs :=
  ⟨h.ok, h.pos, h.le, h.blk.chg hc (hn _ (.inl rfl)), own_chg h.rup hc (by intro k hk; simp [Value.ownBlock] at hk; exact hn k (.inr (.inl hk.symm))),
   own_chg h.rsz hc (by intro k hk; simp [Value.ownBlock] at hk; exact hn k (.inr (.inr (.inl hk.symm)))), own_chg h.rdn hc (fun k hk => hn k (.inr (.inr (.inr hk)))), h.n1, h.n2, h.n3⟩

set_option maxHeartbeats 400000 in
theorem root_any (w : World) (u : Uni) (n : Nat) (hs : UF.Hs) (h : UAt w u n hs) (a : Nat) (ha : a < n) :
    Calls Tryd.prog 29 #[.pointer (some ⟨u.g, 0, none⟩), .int .i64 a] w fun e w' => e = .returned (.int .i64 (UF.rt hs a : Nat)) ∧ w = w' := by
  have HH := Lib.hid h
  have hb0 : w.cell? ⟨u.g, 0, none⟩ = some (.slice (some ⟨u.gu, 0, none⟩) n u.cu) := h.blk.cell 0
  have hle := h.le
  clear h
  go_enter Tryd.func29, Tryd.ntmps29
  go_wp2
  go_loop [1] (fun v => ∃ k : Nat, k < n ∧ UF.rt hs k = UF.rt hs a ∧ v = .int .i64 k) (fun v => UF.dist hs (intOf v).toNat)
  case atStart => exact ⟨a, ha, rfl, rfl⟩
  case round =>
    obtain ⟨k, hk, hr, rfl⟩ := hrel
    have hc := HH.out.up_cell hk
    have H1 := Lib.hid hr
    clear hr
    have hul : UF.up hs k < n := UF.up_lt HH.out.ok hk
    by_cases e : UF.up hs k = k
    · have H2 := Lib.hid e
      have e2 : (((UF.up hs k : Nat) : Int) != (k : Int)) = false := by simp [e]
      clear e
      go_wp2
      go_ret
      exact ⟨by rw [← H1.out, (UF.up_self HH.out.ok).1 H2.out]; rfl, rfl⟩
    · have H2 := Lib.hid e
      have e2 : (((UF.up hs k : Nat) : Int) != (k : Int)) = true := by rw [bne_iff_ne]; omega
      clear e
      go_wp2
      go_round
      case rel => exact ⟨UF.up hs k, hul, (UF.rt_up HH.out.ok).trans H1.out, rfl⟩
      case measure => simpa [intOf] using UF.dist_up HH.out.ok H2.out

/-- Are all of them nodes? -/
def nodeB (n : Nat) (xs : List Int) : Bool := xs.all fun a => decide (0 ≤ a) && decide (a < n)
theorem ret_bool {a b : Bool} (h : a = b) : Ending.returned (.bool a) = .returned (.bool b) := by rw [h]
set_option maxHeartbeats 400000 in
theorem node_any (w : World) (u : Uni) (n : Nat) (hs : UF.Hs) (h : UAt w u n hs) (b m : Nat) (hm : m ≤ 10) (xs : List Int) (hl : xs.length = m)
    (hx : ∀ j, j < m → w.cell? ⟨b, j, none⟩ = some (.int .i64 (xs.getD j 0))) (r : Bool) (hr : nodeB n xs = r) :
    Calls Tryd.prog 28 #[.pointer (some ⟨u.g, 0, none⟩), .slice (some ⟨b, 0, none⟩) m m] w fun e w' => e = .returned (.bool r) ∧ w = w' := by
  have HX := Lib.hid hx
  have HL := Lib.hid hl
  have HR := Lib.hid hr
  have hb0 : w.cell? ⟨u.g, 0, none⟩ = some (.slice (some ⟨u.gu, 0, none⟩) n u.cu) := h.blk.cell 0
  have hle := h.le
  clear h hx hl hr
  go_enter Tryd.func28, Tryd.ntmps28
  go_wp2
  go_loop [9] (fun v => ∃ k : Nat, k ≤ m ∧ (∀ j, j < k → 0 ≤ xs.getD j 0 ∧ xs.getD j 0 < n) ∧ v = .int .i64 k) (fun v => m - (intOf v).toNat)
  case atStart => exact ⟨0, Nat.zero_le _, fun j hj => by omega, rfl⟩
  case round =>
    obtain ⟨k, hk, hall, rfl⟩ := hrel
    have HA := Lib.hid hall
    clear hall
    by_cases hlt : k < m
    · have hc := HX.out k hlt
      obtain ⟨x, hx⟩ : ∃ x, x = xs.getD k 0 := ⟨_, rfl⟩
      rw [← hx] at hc
      have HE := Lib.hid hx
      clear hx
      have hbad : Hid (x < 0 ∨ (n : Int) ≤ x → false = r) := by
        intro hb
        have hx := HE.out
        rw [← HR.out]; symm; unfold nodeB; rw [List.all_eq_false]
        refine ⟨xs.getD k 0, ?_, by simp only [Bool.and_eq_true, decide_eq_true_eq]; omega⟩
        rw [List.getD_eq_getElem?_getD, List.getElem?_eq_getElem (by rw [HL.out]; exact hlt)]; exact List.getElem_mem _
      by_cases c1 : x < 0
      · go_wp2
        go_ret
        exact ⟨ret_bool (hbad.out (.inl c1)), rfl⟩
      · by_cases c2 : x < n
        · have c3 : decide ((n : Int) ≤ x) = false := by simp only [decide_eq_false_iff_not]; omega
          go_wp2
          go_round
          case rel =>
            refine ⟨k + 1, by omega, fun j hj => ?_, by go_num⟩
            by_cases e : j = k
            · subst e; rw [← HE.out]; omega
            · exact HA.out j (by omega)
          case measure => simp [intOf]; omega
        · have c3 : (n : Int) ≤ x := by omega
          go_wp2
          go_ret
          exact ⟨ret_bool (hbad.out (.inr c3)), rfl⟩
    · go_wp2
      go_ret
      refine ⟨ret_bool ?_, rfl⟩
      rw [← HR.out]; symm; unfold nodeB; rw [List.all_eq_true]
      intro x hx
      obtain ⟨j, hj, rfl⟩ := List.getElem_of_mem hx
      have hj' := HL.out
      have := HA.out j (by omega)
      rw [List.getD_eq_getElem?_getD, List.getElem?_eq_getElem hj] at this
      simp only [Option.getD_some] at this
      simp [this]

/-- An error of this program. -/
abbrev errVU (n : Int) : Value := .iface 23 (.int .i64 n)
theorem own_slice {w : World} {base : Nat} {e : TypeId} {size : Nat} {v : Value} {n : Nat} {xs : List Value} (h : w.ownsRow base e size v n xs) : ∃ A c, v = .slice A n c ∧ n ≤ c := by
  rcases h.2 with ⟨rfl, rfl⟩ | ⟨g, cap, cur, rfl, _, _, h1, _⟩
  · exact ⟨none, 0, rfl, Nat.le_refl _⟩
  · exact ⟨_, cap, rfl, h1⟩
theorem cell2 {w : World} {b : Nat} {t : TypeId} {a c : Int} (h : Blk w b t #[.int .i64 a, .int .i64 c]) : ∀ j, j < 2 → w.cell? ⟨b, j, none⟩ = some (.int .i64 ([a, c].getD j 0)) := by
  intro j hj
  rw [h.cell]
  match j, hj with
  | 0, _ => rfl
  | 1, _ => rfl
theorem cell1 {w : World} {b : Nat} {t : TypeId} {a : Int} (h : Blk w b t #[.int .i64 a]) : ∀ j, j < 1 → w.cell? ⟨b, j, none⟩ = some (.int .i64 ([a].getD j 0)) := by
  intro j hj
  rw [h.cell]
  match j, hj with
  | 0, _ => rfl
theorem UAt.new {w w' : World} {u : Uni} {n : Nat} {hs : UF.Hs} (h : UAt w u n hs) (hb : Below w.heap.size w w') : UAt w' u n hs :=
  h.chg (Chg.new hb (fun _ => False)) (fun _ _ hf => hf)
theorem UAt.alloc {w : World} {u : Uni} {n : Nat} {hs : UF.Hs} (h : UAt w u n hs) (o : Obj) : UAt (w.alloc o) u n hs := h.new ((Below.refl _ _).alloc (Nat.le_refl _) o)
theorem UAt.drew {w : World} {u : Uni} {n : Nat} {hs : UF.Hs} (h : UAt w u n hs) : UAt w.drew u n hs := h.new ((Below.refl _ _).drew)
theorem UAt.drewN {w : World} {u : Uni} {n : Nat} {hs : UF.Hs} (h : UAt w u n hs) (k : Nat) : UAt (w.drewN k) u n hs := h.new ⟨rfl, rfl, rfl, Nat.le_refl _, fun _ _ => rfl⟩

set_option maxHeartbeats 400000 in
theorem same_no (w : World) (u : Uni) (n : Nat) (hs : UF.Hs) (h : UAt w u n hs) (a b : Int) (hr : nodeB n [a, b] = false) :
    Calls Tryd.prog 21 #[.pointer (some ⟨u.g, 0, none⟩), .int .i64 a, .int .i64 b] w fun e w' => e = .returned (.tuple #[.bool false, errVU 1]) ∧ Below w.heap.size w w' := by
  have HH := Lib.hid h
  have HR := Lib.hid hr
  clear h hr
  go_enter Tryd.func21, Tryd.ntmps21
  go_wp2_with fail
  refine (node_any _ u n hs (HH.out.alloc _) w.heap.size 2 (by omega) [a, b] rfl (cell2 (Blk.new _ _ _)) false HR.out).mono ?_
  rintro e w' ⟨rfl, rfl⟩
  go_wp2
  go_ret2
  exact ⟨rfl, (Below.refl _ _).alloc (Nat.le_refl _) _⟩
set_option maxHeartbeats 400000 in
theorem same_yes (w : World) (u : Uni) (n : Nat) (hs : UF.Hs) (h : UAt w u n hs) (a b : Nat) (ha : a < n) (hb : b < n) :
    Calls Tryd.prog 21 #[.pointer (some ⟨u.g, 0, none⟩), .int .i64 a, .int .i64 b] w fun e w' => e = .returned (.tuple #[.bool (UF.rt hs a == UF.rt hs b), .nilIface]) ∧ Below w.heap.size w w' := by
  have HH := Lib.hid h
  have HR : Hid (nodeB n [(a : Int), (b : Int)] = true) := by unfold Hid nodeB; simp; omega
  clear h
  go_enter Tryd.func21, Tryd.ntmps21
  go_wp2_with fail
  refine (node_any _ u n hs (HH.out.alloc _) w.heap.size 2 (by omega) [(a : Int), (b : Int)] rfl (cell2 (Blk.new _ _ _)) true HR.out).mono ?_
  rintro e w' ⟨rfl, rfl⟩
  go_wp2_with fail
  refine (root_any _ u n hs (HH.out.alloc _) a ha).mono ?_
  rintro e w' ⟨rfl, rfl⟩
  go_wp2_with fail
  refine (root_any _ u n hs (HH.out.alloc _) b hb).mono ?_
  rintro e w' ⟨rfl, rfl⟩
  go_wp2
  go_ret2
  refine ⟨?_, (Below.refl _ _).alloc (Nat.le_refl _) _⟩
  have : ((UF.rt hs a : Int) == (UF.rt hs b : Int)) = (UF.rt hs a == UF.rt hs b) := by rw [Bool.eq_iff_iff]; simp; omega
  rw [← this]; rfl
end Go.Proofs.YtckcbfnffmohgaaDoor
