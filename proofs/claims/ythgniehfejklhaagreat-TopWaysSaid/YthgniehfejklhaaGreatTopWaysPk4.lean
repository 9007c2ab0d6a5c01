/-
  Walks of union.root, node, Same, Size, Parts, Mark over a union in memory ('UAt': it reads as a list of hangs). Condition: the union lies in memory as 'UAt' says; root is asked for a node that there is.
  Walks of union.New, Join and Back. New: for every number; Join, Back: over a union that lies in memory as 'UAt' says.
  Walk of union.Back, and Join for every two numbers. Condition: the union lies in memory as 'UAt' says.
  Contracts of package union by the place of the struct, for nodes given as whole numbers. Condition: the union lies in memory as 'UAt' says.
-/
import Derived.Test.YthgniehfejklhaaGreatRows
import Derived.Test.YthgniehfejklhaaGreatBs3
import Derived.Test.YthgniehfejklhaaGreatBs1
import Derived.WalkKit
import Derived.WalkSpells
import Derived.Lib.Hide
import Derived.Outline
import Derived.Deep.QuietTactic
import Derived.BigQuiet
import Derived.Deep.RegionHeld3
import Derived.Deep.DeepFit
import Derived.RegionTactic
import Derived.BigRegion
import Derived.Deep.DrawnRows
import Derived.Deep.LoopGhost
namespace Go.Proofs.YthgniehfejklhaaGreat
open Go Go.RowKit

/-- Where a union lies: its struct's block, the rows up and size, the row done. -/
structure Uni where
  g : Nat
  gu : Nat
  cu : Nat
  gs : Nat
  cs : Nat
  dv : Value

/-- Its blocks. -/
def Uni.fp (u : Uni) (k : Nat) : Prop := k = u.g ∨ k = u.gu ∨ k = u.gs ∨ u.dv.ownBlock = some k
def i64v (f : Nat → Nat) (n : Nat) : List Value := (List.range n).map fun i => .int .i64 (f i : Nat)
theorem i64v_get {f : Nat → Nat} {n i : Nat} (h : i < n) : (i64v f n)[i]? = some (.int .i64 (f i : Nat)) := by simp [i64v, h]

structure UAt (w : World) (u : Uni) (n : Nat) (hs : UF.Hs) : Prop where
  ok : UF.Ok n hs
  pos : 0 < n
  le : n ≤ 60
  blk : Blk w u.g 135 #[.slice (some ⟨u.gu, 0, none⟩) n u.cu, .slice (some ⟨u.gs, 0, none⟩) n u.cs, u.dv, .int .i64 ((n : Int) - (hs.length : Int))]
  rup : w.ownsRow 0 3 1 (.slice (some ⟨u.gu, 0, none⟩) n u.cu) n (i64v (UF.up hs) n)
  rsz : w.ownsRow 0 3 1 (.slice (some ⟨u.gs, 0, none⟩) n u.cs) n (i64v (UF.sz hs) n)
  rdn : w.ownsRow 0 3 1 u.dv hs.length (hs.reverse.map fun p => .int .i64 (p.2 : Nat))
  n1 : u.gu ≠ u.gs
  n2 : u.dv.ownBlock ≠ some u.gu
  n3 : u.dv.ownBlock ≠ some u.gs

theorem UAt.up_cell {w : World} {u : Uni} {n : Nat} {hs : UF.Hs} (h : UAt w u n hs) {i : Nat} (hi : i < n) : w.cell? ⟨u.gu, i, none⟩ = some (.int .i64 (UF.up hs i : Nat)) := by
  rw [h.rup.cellAt i (by omega), i64v_get hi]
theorem UAt.sz_cell {w : World} {u : Uni} {n : Nat} {hs : UF.Hs} (h : UAt w u n hs) {i : Nat} (hi : i < n) : w.cell? ⟨u.gs, i, none⟩ = some (.int .i64 (UF.sz hs i : Nat)) := by
  rw [h.rsz.cellAt i (by omega), i64v_get hi]
theorem UAt.ggu {w : World} {u : Uni} {n : Nat} {hs : UF.Hs} (h : UAt w u n hs) : u.gu ≠ u.g := by
  have := own_ne h.rup h.blk (by decide); simpa [Value.ownBlock] using this
theorem UAt.ggs {w : World} {u : Uni} {n : Nat} {hs : UF.Hs} (h : UAt w u n hs) : u.gs ≠ u.g := by
  have := own_ne h.rsz h.blk (by decide); simpa [Value.ownBlock] using this
theorem UAt.ggd {w : World} {u : Uni} {n : Nat} {hs : UF.Hs} (h : UAt w u n hs) : u.dv.ownBlock ≠ some u.g := own_ne h.rdn h.blk (by decide)
theorem UAt.lt {w : World} {u : Uni} {n : Nat} {hs : UF.Hs} (h : UAt w u n hs) {k : Nat} (hk : u.fp k) : k < w.heap.size := by
  rcases hk with rfl | rfl | rfl | hk
  · exact h.blk.lt
  · exact own_lt h.rup (by simp [Value.ownBlock])
  · exact own_lt h.rsz (by simp [Value.ownBlock])
  · exact own_lt h.rdn hk
theorem UAt.chg {S : Nat → Prop} {w w' : World} {u : Uni} {n : Nat} {hs : UF.Hs} (h : UAt w u n hs) (hc : Chg S w w') (hn : ∀ k, u.fp k → ¬ S k) : UAt w' u n hs :=
  ⟨h.ok, h.pos, h.le, h.blk.chg hc (hn _ (.inl rfl)), own_chg h.rup hc (by intro k hk; simp [Value.ownBlock] at hk; exact hn k (.inr (.inl hk.symm))),
   own_chg h.rsz hc (by intro k hk; simp [Value.ownBlock] at hk; exact hn k (.inr (.inr (.inl hk.symm)))), own_chg h.rdn hc (fun k hk => hn k (.inr (.inr (.inr hk)))), h.n1, h.n2, h.n3⟩

set_option maxHeartbeats 400000 in
theorem root_any (w : World) (u : Uni) (n : Nat) (hs : UF.Hs) (h : UAt w u n hs) (a : Nat) (ha : a < n) :
    Calls Tryz.prog 74 #[.pointer (some ⟨u.g, 0, none⟩), .int .i64 a] w fun e w' => e = .returned (.int .i64 (UF.rt hs a : Nat)) ∧ w = w' := by
  have HH := Lib.hid h
  have hb0 : w.cell? ⟨u.g, 0, none⟩ = some (.slice (some ⟨u.gu, 0, none⟩) n u.cu) := h.blk.cell 0
  have hle := h.le
  clear h
  go_enter Tryz.func74, Tryz.ntmps74
  go_wp2
  go_loop [1] (fun v => ∃ k : Nat, k < n ∧ UF.rt hs k = UF.rt hs a ∧ v = .int .i64 k) (fun v => UF.dist hs (intOf v).toNat)
  case atStart => exact ⟨a, ha, rfl, rfl⟩
  case round =>
    obtain ⟨k, hk, hr, rfl⟩ := hrel
    have hc := HH.out.up_cell hk
    have H1 := Lib.hid hr
    clear hr
    have hul : UF.up hs k < n := UF.up_lt HH.out.ok hk
    by_cases e : UF.up hs k = k
    · have H2 := Lib.hid e
      have e2 : (((UF.up hs k : Nat) : Int) != (k : Int)) = false := by simp [e]
      clear e
      go_wp2
      go_ret
      exact ⟨by rw [← H1.out, (UF.up_self HH.out.ok).1 H2.out]; rfl, rfl⟩
    · have H2 := Lib.hid e
      have e2 : (((UF.up hs k : Nat) : Int) != (k : Int)) = true := by rw [bne_iff_ne]; omega
      clear e
      go_wp2
      go_round
      case rel => exact ⟨UF.up hs k, hul, (UF.rt_up HH.out.ok).trans H1.out, rfl⟩
      case measure => simpa [intOf] using UF.dist_up HH.out.ok H2.out

/-- Are all of them nodes? -/
def nodeB (n : Nat) (xs : List Int) : Bool := xs.all fun a => decide (0 ≤ a) && decide (a < n)
theorem ret_bool {a b : Bool} (h : a = b) : Ending.returned (.bool a) = .returned (.bool b) := by rw [h]
set_option maxHeartbeats 400000 in
theorem node_any (w : World) (u : Uni) (n : Nat) (hs : UF.Hs) (h : UAt w u n hs) (b m : Nat) (hm : m ≤ 10) (xs : List Int) (hl : xs.length = m)
    (hx : ∀ j, j < m → w.cell? ⟨b, j, none⟩ = some (.int .i64 (xs.getD j 0))) (r : Bool) (hr : nodeB n xs = r) :
    Calls Tryz.prog 73 #[.pointer (some ⟨u.g, 0, none⟩), .slice (some ⟨b, 0, none⟩) m m] w fun e w' => e = .returned (.bool r) ∧ w = w' := by
  have HX := Lib.hid hx
  have HL := Lib.hid hl
  have HR := Lib.hid hr
  have hb0 : w.cell? ⟨u.g, 0, none⟩ = some (.slice (some ⟨u.gu, 0, none⟩) n u.cu) := h.blk.cell 0
  have hle := h.le
  clear h hx hl hr
  go_enter Tryz.func73, Tryz.ntmps73
  go_wp2
  go_loop [9] (fun v => ∃ k : Nat, k ≤ m ∧ (∀ j, j < k → 0 ≤ xs.getD j 0 ∧ xs.getD j 0 < n) ∧ v = .int .i64 k) (fun v => m - (intOf v).toNat)
  case atStart => exact ⟨0, Nat.zero_le _, fun j hj => by omega, rfl⟩
  case round =>
    obtain ⟨k, hk, hall, rfl⟩ := hrel
    have HA := Lib.hid hall
    clear hall
    by_cases hlt : k < m
    · have hc := HX.out k hlt
      obtain ⟨x, hx⟩ : ∃ x, x = xs.getD k 0 := ⟨_, rfl⟩
      rw [← hx] at hc
      have HE := Lib.hid hx
      clear hx
      have hbad : Hid (x < 0 ∨ (n : Int) ≤ x → false = r) := by
        intro hb
        have hx := HE.out
        rw [← HR.out]; symm; unfold nodeB; rw [List.all_eq_false]
        refine ⟨xs.getD k 0, ?_, by simp only [Bool.and_eq_true, decide_eq_true_eq]; omega⟩
        rw [List.getD_eq_getElem?_getD, List.getElem?_eq_getElem (by rw [HL.out]; exact hlt)]; exact List.getElem_mem _
      by_cases c1 : x < 0
      · go_wp2
        go_ret
        exact ⟨ret_bool (hbad.out (.inl c1)), rfl⟩
      · by_cases c2 : x < n
        · have c3 : decide ((n : Int) ≤ x) = false := by simp only [decide_eq_false_iff_not]; omega
          go_wp2
          go_round
          case rel =>
            refine ⟨k + 1, by omega, fun j hj => ?_, by go_num⟩
            by_cases e : j = k
            · subst e; rw [← HE.out]; omega
            · exact HA.out j (by omega)
          case measure => simp [intOf]; omega
        · have c3 : (n : Int) ≤ x := by omega
          go_wp2
          go_ret
          exact ⟨ret_bool (hbad.out (.inr c3)), rfl⟩
    · go_wp2
      go_ret
      refine ⟨ret_bool ?_, rfl⟩
      rw [← HR.out]; symm; unfold nodeB; rw [List.all_eq_true]
      intro x hx
      obtain ⟨j, hj, rfl⟩ := List.getElem_of_mem hx
      have hj' := HL.out
      have := HA.out j (by omega)
      rw [List.getD_eq_getElem?_getD, List.getElem?_eq_getElem hj] at this
      simp only [Option.getD_some] at this
      simp [this]

/-- An error of this program. -/
abbrev errVU (n : Int) : Value := .iface 86 (.int .i64 n)
set_option maxHeartbeats 400000 in
theorem parts_any (w : World) (u : Uni) (n : Nat) (hs : UF.Hs) (h : UAt w u n hs) :
    Calls Tryz.prog 41 #[.pointer (some ⟨u.g, 0, none⟩)] w fun e w' => e = .returned (.int .i64 ((n : Int) - (hs.length : Int))) ∧ w = w' := by
  have hb0 : w.cell? ⟨u.g, 3, none⟩ = some (.int .i64 ((n : Int) - (hs.length : Int))) := h.blk.cell 3
  clear h
  go_enter Tryz.func41, Tryz.ntmps41
  go_wp2
  go_ret
  exact ⟨rfl, rfl⟩
theorem own_slice {w : World} {base : Nat} {e : TypeId} {size : Nat} {v : Value} {n : Nat} {xs : List Value} (h : w.ownsRow base e size v n xs) : ∃ A c, v = .slice A n c ∧ n ≤ c := by
  rcases h.2 with ⟨rfl, rfl⟩ | ⟨g, cap, cur, rfl, _, _, h1, _⟩
  · exact ⟨none, 0, rfl, Nat.le_refl _⟩
  · exact ⟨_, cap, rfl, h1⟩
set_option maxHeartbeats 400000 in
theorem mark_any (w : World) (u : Uni) (n : Nat) (hs : UF.Hs) (h : UAt w u n hs) :
    Calls Tryz.prog 96 #[.pointer (some ⟨u.g, 0, none⟩)] w fun e w' => e = .returned (.int .i64 (hs.length : Nat)) ∧ w = w' := by
  obtain ⟨A, c, hv, _⟩ := own_slice h.rdn
  have hb0 : w.cell? ⟨u.g, 2, none⟩ = some (.slice A hs.length c) := by rw [← hv]; exact h.blk.cell 2
  clear h hv
  go_enter Tryz.func96, Tryz.ntmps96
  go_wp2
  go_ret
  exact ⟨rfl, rfl⟩
theorem cell2 {w : World} {b : Nat} {t : TypeId} {a c : Int} (h : Blk w b t #[.int .i64 a, .int .i64 c]) : ∀ j, j < 2 → w.cell? ⟨b, j, none⟩ = some (.int .i64 ([a, c].getD j 0)) := by
  intro j hj
  rw [h.cell]
  match j, hj with
  | 0, _ => rfl
  | 1, _ => rfl
theorem cell1 {w : World} {b : Nat} {t : TypeId} {a : Int} (h : Blk w b t #[.int .i64 a]) : ∀ j, j < 1 → w.cell? ⟨b, j, none⟩ = some (.int .i64 ([a].getD j 0)) := by
  intro j hj
  rw [h.cell]
  match j, hj with
  | 0, _ => rfl
theorem UAt.new {w w' : World} {u : Uni} {n : Nat} {hs : UF.Hs} (h : UAt w u n hs) (hb : Below w.heap.size w w') : UAt w' u n hs :=
  h.chg (Chg.new hb (fun _ => False)) (fun _ _ hf => hf)
theorem UAt.alloc {w : World} {u : Uni} {n : Nat} {hs : UF.Hs} (h : UAt w u n hs) (o : Obj) : UAt (w.alloc o) u n hs := h.new ((Below.refl _ _).alloc (Nat.le_refl _) o)
theorem UAt.drew {w : World} {u : Uni} {n : Nat} {hs : UF.Hs} (h : UAt w u n hs) : UAt w.drew u n hs := h.new ((Below.refl _ _).drew)
theorem UAt.drewN {w : World} {u : Uni} {n : Nat} {hs : UF.Hs} (h : UAt w u n hs) (k : Nat) : UAt (w.drewN k) u n hs := h.new ⟨rfl, rfl, rfl, Nat.le_refl _, fun _ _ => rfl⟩

set_option maxHeartbeats 400000 in
theorem same_no (w : World) (u : Uni) (n : Nat) (hs : UF.Hs) (h : UAt w u n hs) (a b : Int) (hr : nodeB n [a, b] = false) :
    Calls Tryz.prog 38 #[.pointer (some ⟨u.g, 0, none⟩), .int .i64 a, .int .i64 b] w fun e w' => e = .returned (.tuple #[.bool false, errVU 1]) ∧ Below w.heap.size w w' := by
  have HH := Lib.hid h
  have HR := Lib.hid hr
  clear h hr
  go_enter Tryz.func38, Tryz.ntmps38
  go_wp2_with fail
  refine (node_any _ u n hs (HH.out.alloc _) w.heap.size 2 (by omega) [a, b] rfl (cell2 (Blk.new _ _ _)) false HR.out).mono ?_
  rintro e w' ⟨rfl, rfl⟩
  go_wp2
  go_ret2
  exact ⟨rfl, (Below.refl _ _).alloc (Nat.le_refl _) _⟩
set_option maxHeartbeats 400000 in
theorem same_yes (w : World) (u : Uni) (n : Nat) (hs : UF.Hs) (h : UAt w u n hs) (a b : Nat) (ha : a < n) (hb : b < n) :
    Calls Tryz.prog 38 #[.pointer (some ⟨u.g, 0, none⟩), .int .i64 a, .int .i64 b] w fun e w' => e = .returned (.tuple #[.bool (UF.rt hs a == UF.rt hs b), .nilIface]) ∧ Below w.heap.size w w' := by
  have HH := Lib.hid h
  have HR : Hid (nodeB n [(a : Int), (b : Int)] = true) := by unfold Hid nodeB; simp; omega
  clear h
  go_enter Tryz.func38, Tryz.ntmps38
  go_wp2_with fail
  refine (node_any _ u n hs (HH.out.alloc _) w.heap.size 2 (by omega) [(a : Int), (b : Int)] rfl (cell2 (Blk.new _ _ _)) true HR.out).mono ?_
  rintro e w' ⟨rfl, rfl⟩
  go_wp2_with fail
  refine (root_any _ u n hs (HH.out.alloc _) a ha).mono ?_
  rintro e w' ⟨rfl, rfl⟩
  go_wp2_with fail
  refine (root_any _ u n hs (HH.out.alloc _) b hb).mono ?_
  rintro e w' ⟨rfl, rfl⟩
  go_wp2
  go_ret2
  refine ⟨?_, (Below.refl _ _).alloc (Nat.le_refl _) _⟩
  have : ((UF.rt hs a : Int) == (UF.rt hs b : Int)) = (UF.rt hs a == UF.rt hs b) := by rw [Bool.eq_iff_iff]; simp; omega
  rw [← this]; rfl
set_option maxHeartbeats 400000 in
theorem size_no (w : World) (u : Uni) (n : Nat) (hs : UF.Hs) (h : UAt w u n hs) (a : Int) (hr : nodeB n [a] = false) :
    Calls Tryz.prog 40 #[.pointer (some ⟨u.g, 0, none⟩), .int .i64 a] w fun e w' => e = .returned (.tuple #[.int .i64 0, errVU 1]) ∧ Below w.heap.size w w' := by
  have HH := Lib.hid h
  have HR := Lib.hid hr
  clear h hr
  go_enter Tryz.func40, Tryz.ntmps40
  go_wp2_with fail
  refine (node_any _ u n hs (HH.out.alloc _) w.heap.size 1 (by omega) [a] rfl (cell1 (Blk.new _ _ _)) false HR.out).mono ?_
  rintro e w' ⟨rfl, rfl⟩
  go_wp2
  go_ret2
  exact ⟨rfl, (Below.refl _ _).alloc (Nat.le_refl _) _⟩
set_option maxHeartbeats 800000 in
theorem size_yes (w : World) (u : Uni) (n : Nat) (hs : UF.Hs) (h : UAt w u n hs) (a : Nat) (ha : a < n) :
    Calls Tryz.prog 40 #[.pointer (some ⟨u.g, 0, none⟩), .int .i64 a] w fun e w' => e = .returned (.tuple #[.int .i64 (UF.sz hs (UF.rt hs a) : Nat), .nilIface]) ∧ Below w.heap.size w w' := by
  have HH := Lib.hid h
  have HR : Hid (nodeB n [(a : Int)] = true) := by unfold Hid nodeB; simp; omega
  have hrl := UF.rt_lt h.ok ha
  have hle := h.le
  have hb0 : ∀ o, (w.alloc o).cell? ⟨u.g, 1, none⟩ = some (.slice (some ⟨u.gs, 0, none⟩) n u.cs) := fun o => (h.alloc o).blk.cell 1
  have hb1 : ∀ o, (w.alloc o).cell? ⟨u.gs, UF.rt hs a, none⟩ = some (.int .i64 (UF.sz hs (UF.rt hs a) : Nat)) := fun o => (h.alloc o).sz_cell hrl
  clear h
  go_enter Tryz.func40, Tryz.ntmps40
  go_wp2_with fail
  refine (node_any _ u n hs (HH.out.alloc _) w.heap.size 1 (by omega) [(a : Int)] rfl (cell1 (Blk.new _ _ _)) true HR.out).mono ?_
  rintro e w' ⟨rfl, rfl⟩
  go_wp2_with fail
  go_quiet ((go_at_call 74; exact Calls.quiet_of_same ((root_any _ u n hs ((HH.out.alloc _).drewN _) a ha).mono fun _ _ ⟨p, q⟩ => ⟨p, q.symm⟩)))
  go_wp2
  go_ret2
  exact ⟨rfl, by first | exact ((Below.refl _ _).alloc (Nat.le_refl _) _) | exact below_drewN' ((Below.refl _ _).alloc (Nat.le_refl _) _) _⟩
end Go.Proofs.YthgniehfejklhaaGreat
namespace Go.Proofs.YthgniehfejklhaaGreat
open Go Go.RowKit

theorem infoInt : (Tryz.prog.info? 3).map (fun i => (i.zero, i.size, i.bytes)) = some (some (.int .i64 0), 1, 8) := by kernel_rfl
theorem i64v_succ (f : Nat → Nat) (n : Nat) : i64v f (n + 1) = i64v f n ++ [.int .i64 (f n : Nat)] := by simp [i64v, List.range_succ]
theorem i64v_congr {f g : Nat → Nat} {n : Nat} (h : ∀ i, i < n → f i = g i) : i64v f n = i64v g n := by
  unfold i64v; apply List.map_congr_left; intro i hi; rw [h i (by simpa using hi)]

/-- How far New has come. -/
def NewRel (w : World) (n k : Nat) (wr : World) : Prop := ∃ uv sv : Value, Blk wr w.heap.size 135 #[uv, sv, .slice none 0 0, .int .i64 n] ∧
  wr.ownsRow 0 3 1 uv k (i64v id k) ∧ wr.ownsRow 0 3 1 sv k (i64v (fun _ => 1) k) ∧ (∀ j, uv.ownBlock = some j → w.heap.size < j) ∧ (∀ j, sv.ownBlock = some j → w.heap.size < j) ∧
  (∀ j, uv.ownBlock = some j → sv.ownBlock ≠ some j) ∧ Below w.heap.size w wr

theorem new_step {w wr w1 w2 : World} {n k g1 p1 g2 p2 : Nat} {uv sv : Value} {o1 o2 : Obj}
    (hu : wr.ownsRow 0 3 1 uv k (i64v id k)) (hs : wr.ownsRow 0 3 1 sv k (i64v (fun _ => 1) k))
    (lu : ∀ j, uv.ownBlock = some j → w.heap.size < j) (ls : ∀ j, sv.ownBlock = some j → w.heap.size < j) (hne : ∀ j, uv.ownBlock = some j → sv.ownBlock ≠ some j) (hbl : Below w.heap.size w wr) (hlt : w.heap.size < wr.heap.size)
    (ho1 : w1.ownsRow 0 3 1 (.slice (some ⟨g1, 0, none⟩) (k + 1) p1) (k + 1) (i64v id k ++ [.int .i64 k])) (hc1 : Chg (fun j => uv.ownBlock = some j) (wr.alloc o1) w1) (hat1 : uv.ownBlock = some g1 ∨ g1 = (wr.alloc o1).heap.size)
    (ho2 : w2.ownsRow 0 3 1 (.slice (some ⟨g2, 0, none⟩) (k + 1) p2) (k + 1) (i64v (fun _ => 1) k ++ [.int .i64 1]))
    (hc2 : Chg (fun j => sv.ownBlock = some j) ((w1.setCell ⟨w.heap.size, 0, none⟩ (.slice (some ⟨g1, 0, none⟩) (k + 1) p1)).alloc o2) w2)
    (hat2 : sv.ownBlock = some g2 ∨ g2 = ((w1.setCell ⟨w.heap.size, 0, none⟩ (.slice (some ⟨g1, 0, none⟩) (k + 1) p1)).alloc o2).heap.size)
    (HB2 : Blk w2 w.heap.size 135 #[.slice (some ⟨g1, 0, none⟩) (k + 1) p1, sv, .slice none 0 0, .int .i64 n]) :
    NewRel w n (k + 1) (w2.setCell ⟨w.heap.size, 1, none⟩ (.slice (some ⟨g2, 0, none⟩) (k + 1) p2)) := by
  have z1 : g1 < w1.heap.size := own_block_lt ho1 rfl
  have z2 : ∀ j, uv.ownBlock = some j → j < wr.heap.size := fun j hj => own_block_lt hu hj
  have z3 : ∀ j, sv.ownBlock = some j → j < wr.heap.size := fun j hj => own_block_lt hs hj
  have z4 := hc1.size
  simp only [World.size_alloc, World.size_setCell] at hat1 hat2 z4
  have y1 : w.heap.size < g1 := by rcases hat1 with h | h; exact lu _ h; omega
  have y2 : w.heap.size < g2 := by rcases hat2 with h | h; exact ls _ h; omega
  have y3 : g1 ≠ g2 := by
    rcases hat2 with h | h
    · have := z3 _ h
      rcases hat1 with h' | h'
      · intro e; subst e; exact hne _ h' h
      · omega
    · omega
  refine ⟨_, _, HB2.set_ 1 _, ?_, ?_, ?_, ?_, ?_, ?_⟩
  · rw [i64v_succ]
    refine own_far (own_chg ((own_far ho1 (p := ⟨w.heap.size, 0, none⟩) (by simp [Value.ownBlock]; omega) _).alloc _) hc2 ?_) (by simp [Value.ownBlock]; omega) _
    intro j hj hj2
    simp [Value.ownBlock] at hj
    subst hj
    rcases hat1 with h | h
    · exact hne _ h hj2
    · have := z3 _ hj2; omega
  · rw [i64v_succ]
    exact own_far ho2 (by simp [Value.ownBlock]; omega) _
  · intro j hj; simp [Value.ownBlock] at hj; omega
  · intro j hj; simp [Value.ownBlock] at hj; omega
  · intro j hj hj2; simp [Value.ownBlock] at hj hj2; omega
  · have c := ((((((Chg.of_below hbl).alloc o1).trans hc1 (fun i _ h => Nat.le_of_lt (lu i h))).setCell (p := ⟨w.heap.size, 0, none⟩) (fun _ => Nat.le_refl _) (.slice (some ⟨g1, 0, none⟩) (k + 1) p1)).alloc o2).trans hc2 (fun i _ h => Nat.le_of_lt (ls i h))).setCell (p := ⟨w.heap.size, 1, none⟩) (fun _ => Nat.le_refl _) (.slice (some ⟨g2, 0, none⟩) (k + 1) p2)
    exact c.below (Nat.le_refl _) (fun k _ h => h)
theorem new_end {w wr : World} {n : Nat} (h1 : 0 < n) (h2 : n ≤ 60) (h : NewRel w n n wr) : ∃ u : Uni, u.g = w.heap.size ∧ UAt wr u n [] ∧ Below w.heap.size w wr ∧ ∀ k, u.fp k → w.heap.size ≤ k := by
  obtain ⟨uv, sv, hB, hu, hs, lu, ls, hne, hbl⟩ := h
  obtain ⟨gu, cu, rfl, _, _⟩ := own_form hu h1
  obtain ⟨gs, cs, rfl, _, _⟩ := own_form hs h1
  have hgs : gu ≠ gs := fun e => hne gu rfl (by rw [e]; rfl)
  refine ⟨⟨w.heap.size, gu, cu, gs, cs, .slice none 0 0⟩, rfl, ⟨trivial, h1, h2, by simpa using hB, hu, hs, World.ownsRow_nil _ _ _ _, hgs, by simp [Value.ownBlock], by simp [Value.ownBlock]⟩, hbl, ?_⟩
  rintro k (rfl | rfl | rfl | h)
  · exact Nat.le_refl _
  · exact Nat.le_of_lt (lu _ rfl)
  · exact Nat.le_of_lt (ls _ rfl)
  · simp [Value.ownBlock] at h

set_option maxHeartbeats 400000 in
theorem new_no (w : World) (n : Int) (h : n < 1 ∨ 60 < n) :
    Calls Tryz.prog 34 #[.int .i64 n] w fun e w' => e = .returned (.tuple #[.pointer none, errVU 1]) ∧ Below w.heap.size w w' := by
  by_cases h1 : n < 1
  · clear h
    go_enter Tryz.func34, Tryz.ntmps34
    go_wp2
    go_ret2
    exact ⟨rfl, Below.refl _ _⟩
  · have h2 : 60 < n := by omega
    clear h
    go_enter Tryz.func34, Tryz.ntmps34
    go_wp2
    go_ret2
    exact ⟨rfl, Below.refl _ _⟩

/-- What New leaves. -/
def UNewPost (w : World) (n : Nat) (e : Ending) (w' : World) : Prop := ∃ u : Uni, e = .returned (.tuple #[.pointer (some ⟨u.g, 0, none⟩), .nilIface]) ∧ UAt w' u n [] ∧ Below w.heap.size w w' ∧ ∀ k, u.fp k → w.heap.size ≤ k
set_option maxHeartbeats 400000 in
set_option maxRecDepth 100000 in
theorem new_yes (w : World) (n : Nat) (h1 : 0 < n) (h2 : n ≤ 60) :
    Calls Tryz.prog 34 #[.int .i64 n] w (UNewPost w n) := by
  have t1 : ¬ ((n : Int) < 1) := by omega
  have t2 : decide ((60 : Int) < n) = false := by simp only [decide_eq_false_iff_not]; omega
  go_enter Tryz.func34, Tryz.ntmps34
  go_wp2
  go_loopw [17] (fun v wr => ∃ k : Nat, k ≤ n ∧ v = .int .i64 k ∧ NewRel w n k wr) (fun v _ => n - (intOf v).toNat)
  case atStart =>
    refine ⟨0, Nat.zero_le _, rfl, .slice none 0 0, .slice none 0 0, Blk.new _ _ _, World.ownsRow_nil _ _ _ _, World.ownsRow_nil _ _ _ _, ?_, ?_, ?_, (Below.refl _ _).alloc (Nat.le_refl _) _⟩ <;> (intro j hj; simp [Value.ownBlock] at hj)
  case round =>
    obtain ⟨k, hk, rfl, hR⟩ := hrel
    by_cases hlt : k < n
    · obtain ⟨uv, sv, hB, hu, hs, lu, ls, hne, hbl⟩ := hR
      have c0 := hB.cell 0
      have c1 := hB.cell 1
      simp at c0 c1
      have HB := Lib.hid hB
      have hlt0 := hB.lt
      clear hB
      have HS : Hid (∀ w1 : World, Chg (fun j => uv.ownBlock = some j) (wr.alloc (.cells #[.int .i64 k] 3)) w1 → w1.ownsRow 0 3 1 sv k (i64v (fun _ => 1) k)) :=
        fun w1 hc => own_chg (hs.alloc _) hc (fun j hj hj2 => hne j hj2 hj)
      have HG : Hid (∀ w1 : World, Chg (fun j => uv.ownBlock = some j) (wr.alloc (.cells #[.int .i64 k] 3)) w1 → Blk w1 w.heap.size 135 #[uv, sv, .slice none 0 0, .int .i64 n]) :=
        fun w1 hc => (HB.out.alloc _).chg hc (fun hj => by have := lu _ hj; omega)
      have HL : Hid (sv.ownBlock ≠ some w.heap.size) := fun hj => by have := ls _ hj; omega
      go_wp2_with (first
        | (at_builtin; refine wpList_push _ rfl (.tmp 24) (.tmp 26) 23 rfl 3 (.int .i64 0) 8 Tryz.underlying23 infoInt rfl uv k (i64v id k) rfl (hu.alloc _) ⟨by omega, by omega⟩ (.int .i64 k) wr.heap.size rfl (cell_new1 rfl _ _) rfl ?_; intro g1 p1 w1 ho1 hc1 hat1 hp1; have HB1 := Lib.hid (HG.out w1 hc1); have d0 : w1.cell? ⟨w.heap.size, 0, none⟩ = some uv := HB1.out.cell 0; have d1 : w1.cell? ⟨w.heap.size, 1, none⟩ = some sv := HB1.out.cell 1; have e0 := HB1.out.frozen 0; have e1 := HB1.out.frozen 1; have q1 := hc1.size; simp at q1)
        | (at_builtin; refine wpList_push _ rfl (.tmp 34) (.tmp 35) 23 rfl 3 (.int .i64 0) 8 Tryz.underlying23 infoInt rfl sv k (i64v (fun _ => 1) k) rfl ((own_far (HS.out w1 hc1) HL.out _).alloc _) ⟨by omega, by omega⟩ (.int .i64 1) w1.heap.size rfl (cell_new1 (by simp) _ _) rfl ?_; intro g2 p2 w2 ho2 hc2 hat2 hp2; have HB2 : Hid (Blk w2 w.heap.size 135 #[.slice (some ⟨g1, 0, none⟩) (k + 1) p1, sv, .slice none 0 0, .int .i64 n]) := (((HB1.out.set_ 0 (.slice (some ⟨g1, 0, none⟩) (k + 1) p1)).alloc _).chg hc2 (fun hj => HL.out hj)); have d1' : w2.cell? ⟨w.heap.size, 1, none⟩ = some sv := HB2.out.cell 1; have e1' := HB2.out.frozen 1)
        )
      go_roundw
      case rel => exact ⟨k + 1, by omega, by go_num, new_step hu hs lu ls hne hbl hlt0 ho1 hc1 hat1 ho2 hc2 hat2 HB2.out⟩
      case measure => simp [intOf]; omega
    · have e : k = n := by omega
      have HE : Hid (∃ u : Uni, u.g = w.heap.size ∧ UAt wr u n [] ∧ Below w.heap.size w wr ∧ ∀ k, u.fp k → w.heap.size ≤ k) := new_end h1 h2 (e ▸ hR)
      clear e hR
      go_wp2
      go_ret2
      obtain ⟨u, hg, ha, hb, hf⟩ := HE.out
      exact ⟨u, by rw [hg]; rfl, ha, hb, hf⟩

/-- Only blocks of the union and new ones have turned; its own afterwards are of these. -/
def Moved (w : World) (u u' : Uni) (w' : World) : Prop := u'.g = u.g ∧ Chg u.fp w w' ∧ ∀ k, u'.fp k → u.fp k ∨ w.heap.size ≤ k
theorem Moved.same {w w' : World} (u : Uni) (h : Below w.heap.size w w') : Moved w u u w' := ⟨rfl, Chg.new h _, fun _ h => .inl h⟩

set_option maxHeartbeats 400000 in
theorem join_no (w : World) (u : Uni) (n : Nat) (hs : UF.Hs) (h : UAt w u n hs) (a b : Int) (hr : nodeB n [a, b] = false) :
    Calls Tryz.prog 36 #[.pointer (some ⟨u.g, 0, none⟩), .int .i64 a, .int .i64 b] w fun e w' => e = .returned (.tuple #[.bool false, errVU 1]) ∧ Below w.heap.size w w' := by
  have HH := Lib.hid h
  have HR := Lib.hid hr
  clear h hr
  go_enter Tryz.func36, Tryz.ntmps36
  go_wp2_with fail
  refine (node_any _ u n hs (HH.out.alloc _) w.heap.size 2 (by omega) [a, b] rfl (cell2 (Blk.new _ _ _)) false HR.out).mono ?_
  rintro e w' ⟨rfl, rfl⟩
  go_wp2
  go_ret2
  exact ⟨rfl, (Below.refl _ _).alloc (Nat.le_refl _) _⟩
set_option maxHeartbeats 400000 in
theorem join_same (w : World) (u : Uni) (n : Nat) (hs : UF.Hs) (h : UAt w u n hs) (a b : Nat) (ha : a < n) (hb : b < n) (hr : UF.rt hs a = UF.rt hs b) :
    Calls Tryz.prog 36 #[.pointer (some ⟨u.g, 0, none⟩), .int .i64 a, .int .i64 b] w fun e w' => e = .returned (.tuple #[.bool false, .nilIface]) ∧ Below w.heap.size w w' := by
  have HH := Lib.hid h
  have HE := Lib.hid hr
  have HR : Hid (nodeB n [(a : Int), (b : Int)] = true) := by unfold Hid nodeB; simp; omega
  clear h hr
  go_enter Tryz.func36, Tryz.ntmps36
  go_wp2_with fail
  refine (node_any _ u n hs (HH.out.alloc _) w.heap.size 2 (by omega) [(a : Int), (b : Int)] rfl (cell2 (Blk.new _ _ _)) true HR.out).mono ?_
  rintro e w' ⟨rfl, rfl⟩
  go_wp2_with fail
  refine (root_any _ u n hs (HH.out.alloc _) a ha).mono ?_
  rintro e w' ⟨rfl, rfl⟩
  go_wp2_with fail
  refine (root_any _ u n hs (HH.out.alloc _) b hb).mono ?_
  rintro e w' ⟨rfl, rfl⟩
  rw [← HE.out]
  go_wp2
  go_ret2
  exact ⟨rfl, (Below.refl _ _).alloc (Nat.le_refl _) _⟩

theorem i64v_set {f : Nat → Nat} {n k v : Nat} : (i64v f n).set k (.int .i64 (v : Nat)) = i64v (fun i => if i = k then v else f i) n := by
  apply List.ext_getElem?
  intro j
  unfold i64v
  rw [List.getElem?_set]
  by_cases e : k = j
  · subst e
    by_cases hk : k < n
    · simp [hk]
    · simp [hk]
  · have e' : ¬ j = k := fun h => e h.symm
    by_cases hj : j < n <;> simp [e, e', hj]
/-- A union whose rows have the hang already, whose done and parts have not yet. -/
structure UMid (w : World) (u : Uni) (n : Nat) (hs ks : UF.Hs) : Prop where
  blk : Blk w u.g 135 #[.slice (some ⟨u.gu, 0, none⟩) n u.cu, .slice (some ⟨u.gs, 0, none⟩) n u.cs, u.dv, .int .i64 ((n : Int) - (hs.length : Int))]
  rup : w.ownsRow 0 3 1 (.slice (some ⟨u.gu, 0, none⟩) n u.cu) n (i64v (UF.up ks) n)
  rsz : w.ownsRow 0 3 1 (.slice (some ⟨u.gs, 0, none⟩) n u.cs) n (i64v (UF.sz ks) n)
  rdn : w.ownsRow 0 3 1 u.dv hs.length (hs.reverse.map fun p => .int .i64 (p.2 : Nat))
theorem join_mid {w : World} {u : Uni} {n : Nat} {hs : UF.Hs} (h : UAt w u n hs) (o : Obj) (nq p q : Nat) :
    UMid (((((w.alloc o).drewN nq).setCell ⟨u.gu, q, none⟩ (.int .i64 (p : Int))).setCell ⟨u.gs, p, none⟩ (.int .i64 ((UF.sz hs p : Int) + (UF.sz hs q : Int)))).drew) u n hs ((p, q) :: hs) ∧
    Chg u.fp w (((((w.alloc o).drewN nq).setCell ⟨u.gu, q, none⟩ (.int .i64 (p : Int))).setCell ⟨u.gs, p, none⟩ (.int .i64 ((UF.sz hs p : Int) + (UF.sz hs q : Int)))).drew) := by
  have h0 := (h.alloc o).drewN nq
  have e : ((UF.sz hs p : Int) + (UF.sz hs q : Int)) = ((UF.sz hs p + UF.sz hs q : Nat) : Int) := by omega
  rw [e]
  refine ⟨⟨?_, ?_, ?_, ?_⟩, ?_⟩
  · exact ((h0.blk.far (p := ⟨u.gu, q, none⟩) (fun e => h.ggu e.symm) _).far (p := ⟨u.gs, p, none⟩) (fun e => h.ggs e.symm) _).drew
  · have := (h0.rup.stored q (.int .i64 (p : Int))).1
    rw [i64v_set] at this
    exact own_drew (own_far this (p := ⟨u.gs, p, none⟩) (by simp [Value.ownBlock]; exact h.n1) _)
  · have := own_far h0.rsz (p := ⟨u.gu, q, none⟩) (by simp [Value.ownBlock]; exact fun e => h.n1 e.symm) (.int .i64 (p : Int))
    have := (this.stored p (.int .i64 ((UF.sz hs p + UF.sz hs q : Nat) : Int))).1
    rw [i64v_set] at this
    exact own_drew this
  · exact own_drew (own_far (own_far h0.rdn (p := ⟨u.gu, q, none⟩) h.n2 _) (p := ⟨u.gs, p, none⟩) h.n3 _)
  · exact ((((((Chg.refl u.fp w).alloc o).drewN nq).setCell (p := ⟨u.gu, q, none⟩) (fun _ => .inr (.inl rfl)) _).setCell (p := ⟨u.gs, p, none⟩) (fun _ => .inr (.inr (.inl rfl))) _).drew)

/-- A root is hung under another. -/
def JoinPost (w : World) (u : Uni) (n : Nat) (hs : UF.Hs) (e : Ending) (w' : World) : Prop := ∃ u' : Uni, e = .returned (.tuple #[.bool true, .nilIface]) ∧ UAt w' u' n hs ∧ Moved w u u' w'
theorem join_fin {w W w1 : World} {u : Uni} {n p q g c : Nat} {hs : UF.Hs} {o : Obj} (h : UAt w u n hs) (hok : UF.Ok n ((p, q) :: hs)) (hm : UMid W u n hs ((p, q) :: hs)) (hc : Chg u.fp w W)
    (ho : w1.ownsRow 0 3 1 (.slice (some ⟨g, 0, none⟩) (hs.length + 1) c) (hs.length + 1) ((hs.reverse.map fun p => .int .i64 (p.2 : Nat)) ++ [.int .i64 (q : Int)]))
    (hc1 : Chg (fun k => u.dv.ownBlock = some k) (W.alloc o) w1) (hat : u.dv.ownBlock = some g ∨ g = (W.alloc o).heap.size) :
    Blk w1 u.g 135 #[.slice (some ⟨u.gu, 0, none⟩) n u.cu, .slice (some ⟨u.gs, 0, none⟩) n u.cs, u.dv, .int .i64 ((n : Int) - (hs.length : Int))] ∧
    ∃ u' : Uni, UAt ((w1.setCell ⟨u.g, 2, none⟩ (.slice (some ⟨g, 0, none⟩) (hs.length + 1) c)).setCell ⟨u.g, 3, none⟩ (.int .i64 ((n : Int) - (hs.length : Int) - 1))) u' n ((p, q) :: hs) ∧
      Moved w u u' ((w1.setCell ⟨u.g, 2, none⟩ (.slice (some ⟨g, 0, none⟩) (hs.length + 1) c)).setCell ⟨u.g, 3, none⟩ (.int .i64 ((n : Int) - (hs.length : Int) - 1))) := by
  have hz := hc.size
  have hlt : ∀ k, u.fp k → k < w.heap.size := fun k hk => h.lt hk
  simp only [World.size_alloc] at hat
  have hB := (hm.blk.alloc o).chg hc1 (h.ggd)
  have q1 : g ≠ u.g := by
    rcases hat with e | e
    · intro e2; subst e2; exact h.ggd e
    · have := hlt _ (.inl rfl); omega
  have q2 : g ≠ u.gu := by
    rcases hat with e | e
    · intro e2; subst e2; exact h.n2 e
    · have := hlt _ (.inr (.inl rfl)); omega
  have q3 : g ≠ u.gs := by
    rcases hat with e | e
    · intro e2; subst e2; exact h.n3 e
    · have := hlt _ (.inr (.inr (.inl rfl))); omega
  have e4 : ((n : Int) - (hs.length : Int) - 1) = ((n : Int) - ((((p, q) :: hs).length : Nat) : Int)) := by simp only [List.length_cons]; omega
  refine ⟨hB, ⟨u.g, u.gu, u.cu, u.gs, u.cs, .slice (some ⟨g, 0, none⟩) (hs.length + 1) c⟩, ⟨hok, h.pos, h.le, ?_, ?_, ?_, ?_, h.n1, by simp [Value.ownBlock]; exact q2, by simp [Value.ownBlock]; exact q3⟩, rfl, ?_, ?_⟩
  · rw [e4]; exact (hB.set_ 2 _).set_ 3 _
  · exact own_far (own_far (own_chg (hm.rup.alloc o) hc1 (by intro k hk; simp [Value.ownBlock] at hk; subst hk; exact h.n2)) (p := ⟨u.g, 2, none⟩) (by simp [Value.ownBlock]; exact h.ggu) _) (p := ⟨u.g, 3, none⟩) (by simp [Value.ownBlock]; exact h.ggu) _
  · exact own_far (own_far (own_chg (hm.rsz.alloc o) hc1 (by intro k hk; simp [Value.ownBlock] at hk; subst hk; exact h.n3)) (p := ⟨u.g, 2, none⟩) (by simp [Value.ownBlock]; exact h.ggs) _) (p := ⟨u.g, 3, none⟩) (by simp [Value.ownBlock]; exact h.ggs) _
  · have := own_far (own_far ho (p := ⟨u.g, 2, none⟩) (by simp [Value.ownBlock]; exact q1) (.slice (some ⟨g, 0, none⟩) (hs.length + 1) c)) (p := ⟨u.g, 3, none⟩) (by simp [Value.ownBlock]; exact q1) (.int .i64 ((n : Int) - (hs.length : Int) - 1))
    simpa using this
  · exact (((hc.alloc o).trans hc1 (fun i _ hi => .inr (.inr (.inr hi)))).setCell (p := ⟨u.g, 2, none⟩) (fun _ => .inl rfl) _).setCell (p := ⟨u.g, 3, none⟩) (fun _ => .inl rfl) _
  · rintro k (rfl | rfl | rfl | hk)
    · exact .inl (.inl rfl)
    · exact .inl (.inr (.inl rfl))
    · exact .inl (.inr (.inr (.inl rfl)))
    · simp [Value.ownBlock] at hk
      subst hk
      rcases hat with e | e
      · exact .inl (.inr (.inr (.inr e)))
      · right; omega

set_option maxHeartbeats 1000000 in
theorem join_yes (w : World) (u : Uni) (n : Nat) (hs : UF.Hs) (h : UAt w u n hs) (a b p q : Nat) (ha : a < n) (hb : b < n) (hne : p ≠ q)
    (hr : (UF.rt hs a = p ∧ UF.rt hs b = q ∧ ¬ UF.sz hs p < UF.sz hs q) ∨ (UF.rt hs a = q ∧ UF.rt hs b = p ∧ UF.sz hs q < UF.sz hs p)) :
    Calls Tryz.prog 36 #[.pointer (some ⟨u.g, 0, none⟩), .int .i64 a, .int .i64 b] w (JoinPost w u n ((p, q) :: hs)) := by
  have HH := Lib.hid h
  have HR : Hid (nodeB n [(a : Int), (b : Int)] = true) := by unfold Hid nodeB; simp; omega
  have hp : p < n := by rcases hr with ⟨r1, r2, _⟩ | ⟨r1, r2, _⟩; rw [← r1]; exact UF.rt_lt h.ok ha; rw [← r2]; exact UF.rt_lt h.ok hb
  have hq : q < n := by rcases hr with ⟨r1, r2, _⟩ | ⟨r1, r2, _⟩; rw [← r2]; exact UF.rt_lt h.ok hb; rw [← r1]; exact UF.rt_lt h.ok ha
  have HOK : Hid (UF.Ok n ((p, q) :: hs)) := by
    refine ⟨h.ok, hp, hq, ?_, ?_, hne⟩
    · rcases hr with ⟨r1, r2, _⟩ | ⟨r1, r2, _⟩; rw [← r1]; exact UF.rt_rt h.ok; rw [← r2]; exact UF.rt_rt h.ok
    · rcases hr with ⟨r1, r2, _⟩ | ⟨r1, r2, _⟩; rw [← r2]; exact UF.rt_rt h.ok; rw [← r1]; exact UF.rt_rt h.ok
  have b0 : ∀ o, (w.alloc o).cell? ⟨u.g, 0, none⟩ = some (.slice (some ⟨u.gu, 0, none⟩) n u.cu) := fun o => (h.alloc o).blk.cell 0
  have b1 : ∀ o, (w.alloc o).cell? ⟨u.g, 1, none⟩ = some (.slice (some ⟨u.gs, 0, none⟩) n u.cs) := fun o => (h.alloc o).blk.cell 1
  have s1 : ∀ o, (w.alloc o).cell? ⟨u.gs, p, none⟩ = some (.int .i64 (UF.sz hs p : Nat)) := fun o => (h.alloc o).sz_cell hp
  have s2 : ∀ o, (w.alloc o).cell? ⟨u.gs, q, none⟩ = some (.int .i64 (UF.sz hs q : Nat)) := fun o => (h.alloc o).sz_cell hq
  have s3 : ∀ o, (w.alloc o).cell? ⟨u.gu, q, none⟩ = some (.int .i64 (UF.up hs q : Nat)) := fun o => (h.alloc o).up_cell hq
  have hle := h.le
  have hll : hs.length < n := UF.len_lt h.ok h.pos
  have z1 := UF.sz_le h.ok hp
  have z2 := UF.sz_le h.ok hq
  have x1 : (0 : Int) ≤ (p : Int) := by omega
  have x2 : (p : Int) < (n : Int) := by omega
  have x3 : (0 : Int) ≤ (q : Int) := by omega
  have x4 : (q : Int) < (n : Int) := by omega
  have t1 : ((p : Int) == (q : Int)) = false := by simp; omega
  have t1' : ((q : Int) == (p : Int)) = false := by simp; omega
  have f1 : ∀ o i, (w.alloc o).frozen? ⟨u.gu, i, none⟩ = false := fun o i => (h.alloc o).rup.frozenAt i
  have f2 : ∀ o i, (w.alloc o).frozen? ⟨u.gs, i, none⟩ = false := fun o i => (h.alloc o).rsz.frozenAt i
  have n1 : ¬ (u.gu = u.gs) := h.n1
  have n2 : ¬ (u.gu = u.g) := h.ggu
  have n3 : ¬ (u.gs = u.g) := h.ggs
  clear h
  rcases hr with ⟨r1, r2, r3⟩ | ⟨r1, r2, r3⟩
  · have R1 := Lib.hid r1
    have R2 := Lib.hid r2
    have t2 : decide (UF.sz hs p < UF.sz hs q) = false := by simp only [decide_eq_false_iff_not]; exact r3
    clear r1 r2 r3
    go_enter Tryz.func36, Tryz.ntmps36
    go_wp2_with fail
    refine (node_any _ u n hs (HH.out.alloc _) w.heap.size 2 (by omega) [(a : Int), (b : Int)] rfl (cell2 (Blk.new _ _ _)) true HR.out).mono ?_
    rintro e w' ⟨rfl, rfl⟩
    go_wp2_with fail
    refine (root_any _ u n hs (HH.out.alloc _) a ha).mono ?_
    rintro e w' ⟨rfl, rfl⟩
    go_wp2_with fail
    refine (root_any _ u n hs (HH.out.alloc _) b hb).mono ?_
    rintro e w' ⟨rfl, rfl⟩
    rw [R1.out, R2.out]
    go_wp2
    go_quiet (fail)
    go_wp2
    go_region
    obtain ⟨HM, HC⟩ := join_mid HH.out (.cells #[.int .i64 a, .int .i64 b] 3) nq p q
    generalize (((((w.alloc (.cells #[.int .i64 a, .int .i64 b] 3)).drewN nq).setCell ⟨u.gu, q, none⟩ (.int .i64 (p : Int))).setCell ⟨u.gs, p, none⟩ (.int .i64 ((UF.sz hs p : Int) + (UF.sz hs q : Int)))).drew) = W at HM HC ⊢
    have c2 : W.cell? ⟨u.g, 2, none⟩ = some u.dv := HM.blk.cell 2
    have hz : u.g < W.heap.size := HM.blk.lt
    have HM' := Lib.hid HM
    have HC' := Lib.hid HC
    clear b0 b1 s1 s2 s3 f1 f2 HM HC
    go_wp2_with (first
      | (at_builtin; refine wpList_push _ rfl (.tmp 68) (.tmp 70) 23 rfl 3 (.int .i64 0) 8 Tryz.underlying23 infoInt rfl u.dv hs.length (hs.reverse.map fun p => .int .i64 (p.2 : Nat)) rfl (HM'.out.rdn.alloc _) ⟨by omega, by omega⟩ (.int .i64 q) W.heap.size rfl (cell_new1 rfl _ _) rfl ?_; intro g c w1 ho hc1 hat hp1; have HF := Lib.hid (join_fin HH.out HOK.out HM'.out HC'.out ho hc1 hat); have d2 : w1.cell? ⟨u.g, 2, none⟩ = some u.dv := HF.out.1.cell 2; have d3 : w1.cell? ⟨u.g, 3, none⟩ = some (.int .i64 ((n : Int) - (hs.length : Int))) := HF.out.1.cell 3; have e2 := HF.out.1.frozen 2; have e3 := HF.out.1.frozen 3; clear ho hc1 hat))
    go_ret2
    obtain ⟨_, u', h1, h2⟩ := HF.out
    exact ⟨u', rfl, h1, h2⟩
  · have R1 := Lib.hid r1
    have R2 := Lib.hid r2
    have t2 : decide (UF.sz hs q < UF.sz hs p) = true := by simp only [decide_eq_true_eq]; exact r3
    clear r1 r2 r3
    go_enter Tryz.func36, Tryz.ntmps36
    go_wp2_with fail
    refine (node_any _ u n hs (HH.out.alloc _) w.heap.size 2 (by omega) [(a : Int), (b : Int)] rfl (cell2 (Blk.new _ _ _)) true HR.out).mono ?_
    rintro e w' ⟨rfl, rfl⟩
    go_wp2_with fail
    refine (root_any _ u n hs (HH.out.alloc _) a ha).mono ?_
    rintro e w' ⟨rfl, rfl⟩
    go_wp2_with fail
    refine (root_any _ u n hs (HH.out.alloc _) b hb).mono ?_
    rintro e w' ⟨rfl, rfl⟩
    rw [R1.out, R2.out]
    go_wp2
    go_quiet (fail)
    go_wp2
    go_region
    obtain ⟨HM, HC⟩ := join_mid HH.out (.cells #[.int .i64 a, .int .i64 b] 3) nq p q
    generalize (((((w.alloc (.cells #[.int .i64 a, .int .i64 b] 3)).drewN nq).setCell ⟨u.gu, q, none⟩ (.int .i64 (p : Int))).setCell ⟨u.gs, p, none⟩ (.int .i64 ((UF.sz hs p : Int) + (UF.sz hs q : Int)))).drew) = W at HM HC ⊢
    have c2 : W.cell? ⟨u.g, 2, none⟩ = some u.dv := HM.blk.cell 2
    have hz : u.g < W.heap.size := HM.blk.lt
    have HM' := Lib.hid HM
    have HC' := Lib.hid HC
    clear b0 b1 s1 s2 s3 f1 f2 HM HC
    go_wp2_with (first
      | (at_builtin; refine wpList_push _ rfl (.tmp 68) (.tmp 70) 23 rfl 3 (.int .i64 0) 8 Tryz.underlying23 infoInt rfl u.dv hs.length (hs.reverse.map fun p => .int .i64 (p.2 : Nat)) rfl (HM'.out.rdn.alloc _) ⟨by omega, by omega⟩ (.int .i64 q) W.heap.size rfl (cell_new1 rfl _ _) rfl ?_; intro g c w1 ho hc1 hat hp1; have HF := Lib.hid (join_fin HH.out HOK.out HM'.out HC'.out ho hc1 hat); have d2 : w1.cell? ⟨u.g, 2, none⟩ = some u.dv := HF.out.1.cell 2; have d3 : w1.cell? ⟨u.g, 3, none⟩ = some (.int .i64 ((n : Int) - (hs.length : Int))) := HF.out.1.cell 3; have e2 := HF.out.1.frozen 2; have e3 := HF.out.1.frozen 3; clear ho hc1 hat))
    go_ret2
    obtain ⟨_, u', h1, h2⟩ := HF.out
    exact ⟨u', rfl, h1, h2⟩
end Go.Proofs.YthgniehfejklhaaGreat
namespace Go.Proofs.YthgniehfejklhaaGreat
open Go Go.RowKit

theorem Moved.refl (w : World) (u : Uni) : Moved w u u w := Moved.same u (Below.refl _ _)
theorem Moved.trans {w w1 w2 : World} {u u1 u2 : Uni} (h : Moved w u u1 w1) (k : Moved w1 u1 u2 w2) : Moved w u u2 w2 := by
  obtain ⟨h1, h2, h3⟩ := h
  obtain ⟨k1, k2, k3⟩ := k
  refine ⟨k1.trans h1, h2.trans k2 (fun i hi hS => ?_), fun i hi => ?_⟩
  · rcases h3 i hS with h | h
    · exact h
    · omega
  · rcases k3 i hi with h | h
    · exact h3 i h
    · have := h2.size; right; omega

/-- How far Back has come: k hangs are still to be taken back. -/
def BackRel (w : World) (u : Uni) (n m : Nat) (hs : UF.Hs) (k : Nat) (wr : World) : Prop :=
  ∃ (u' : Uni) (ks pre : UF.Hs), ks.length = m + k ∧ hs = pre ++ ks ∧ UAt wr u' n ks ∧ Moved w u u' wr
def BackPost (w : World) (u : Uni) (n m : Nat) (hs : UF.Hs) (e : Ending) (w' : World) : Prop :=
  ∃ u' : Uni, e = .returned .nilIface ∧ UAt w' u' n (hs.drop (hs.length - m)) ∧ Moved w u u' w'
theorem back_end {w wr : World} {u : Uni} {n m : Nat} {hs : UF.Hs} (h : BackRel w u n m hs 0 wr) : BackPost w u n m hs (.returned .nilIface) wr := by
  obtain ⟨u', ks, pre, h1, rfl, h3, h4⟩ := h
  refine ⟨u', rfl, ?_, h4⟩
  have : (pre ++ ks).length - m = pre.length := by simp; omega
  rw [this, List.drop_left]; exact h3

theorem back_step {w : World} {u : Uni} {n a b gd cd : Nat} {ks : UF.Hs} (h : UAt w u n ((a, b) :: ks)) (hd : u.dv = .slice (some ⟨gd, 0, none⟩) (ks.length + 1) cd) :
    ∃ u' : Uni, UAt ((((w.setCell ⟨u.g, 2, none⟩ (.slice (some ⟨gd, 0, none⟩) ks.length cd)).setCell ⟨u.gs, a, none⟩ (.int .i64 (UF.sz ks a : Nat))).setCell ⟨u.gu, b, none⟩ (.int .i64 (b : Int))).setCell ⟨u.g, 3, none⟩ (.int .i64 ((n : Int) - ((ks.length : Int) + 1) + 1))) u' n ks ∧
      Moved w u u' ((((w.setCell ⟨u.g, 2, none⟩ (.slice (some ⟨gd, 0, none⟩) ks.length cd)).setCell ⟨u.gs, a, none⟩ (.int .i64 (UF.sz ks a : Nat))).setCell ⟨u.gu, b, none⟩ (.int .i64 (b : Int))).setCell ⟨u.g, 3, none⟩ (.int .i64 ((n : Int) - ((ks.length : Int) + 1) + 1))) := by
  obtain ⟨ho, la, lb, ra, rb, hne⟩ := h.ok
  have hgg := h.ggd
  have n2 := h.n2
  have n3 := h.n3
  rw [hd] at hgg n2 n3
  simp only [Value.ownBlock, ne_eq, Option.some.injEq] at hgg n2 n3
  refine ⟨⟨u.g, u.gu, u.cu, u.gs, u.cs, .slice (some ⟨gd, 0, none⟩) ks.length cd⟩, ⟨ho, h.pos, h.le, ?_, ?_, ?_, ?_, h.n1, by simp [Value.ownBlock]; exact n2, by simp [Value.ownBlock]; exact n3⟩, rfl, ?_, ?_⟩
  · have := (((h.blk.set_ 2 (.slice (some ⟨gd, 0, none⟩) ks.length cd)).far (p := ⟨u.gs, a, none⟩) (fun e => h.ggs e.symm) (.int .i64 (UF.sz ks a : Nat))).far (p := ⟨u.gu, b, none⟩) (fun e => h.ggu e.symm) (.int .i64 (b : Int))).set_ 3 (.int .i64 ((n : Int) - ((ks.length : Int) + 1) + 1))
    have e : ((n : Int) - ((ks.length : Int) + 1) + 1) = (n : Int) - (ks.length : Int) := by omega
    rw [e] at this ⊢
    exact this
  · have := own_far (own_far h.rup (p := ⟨u.g, 2, none⟩) (by simp [Value.ownBlock]; exact h.ggu) (.slice (some ⟨gd, 0, none⟩) ks.length cd)) (p := ⟨u.gs, a, none⟩) (by simp [Value.ownBlock]; exact h.n1) (.int .i64 (UF.sz ks a : Nat))
    have := (this.stored b (.int .i64 (b : Int))).1
    rw [i64v_set] at this
    rw [i64v_congr (g := UF.up ks) (fun i _ => by
      by_cases e : i = b
      · subst e; simp [(UF.up_self ho).2 rb]
      · simp [e, UF.up])] at this
    exact own_far this (p := ⟨u.g, 3, none⟩) (by simp [Value.ownBlock]; exact h.ggu) _
  · have := own_far h.rsz (p := ⟨u.g, 2, none⟩) (by simp [Value.ownBlock]; exact h.ggs) (.slice (some ⟨gd, 0, none⟩) ks.length cd)
    have := (this.stored a (.int .i64 (UF.sz ks a : Nat))).1
    rw [i64v_set] at this
    rw [i64v_congr (g := UF.sz ks) (fun i _ => by
      by_cases e : i = a
      · subst e; simp
      · simp [e, UF.sz])] at this
    exact own_far (own_far this (p := ⟨u.gu, b, none⟩) (by simp [Value.ownBlock]; exact fun e => h.n1 e.symm) _) (p := ⟨u.g, 3, none⟩) (by simp [Value.ownBlock]; exact h.ggs) _
  · have h4 := h.rdn
    rw [hd] at h4
    have := own_take h4 (m := ks.length) (by simp)
    simp only [Nat.mul_one, List.reverse_cons, List.map_append, List.map_cons, List.map_nil] at this
    rw [List.take_append_of_le_length (by simp)] at this
    rw [List.take_of_length_le (by simp)] at this
    exact own_far (own_far (own_far (own_far this (p := ⟨u.g, 2, none⟩) (by simp [Value.ownBlock]; exact hgg) _) (p := ⟨u.gs, a, none⟩) (by simp [Value.ownBlock]; exact n3) _) (p := ⟨u.gu, b, none⟩) (by simp [Value.ownBlock]; exact n2) _) (p := ⟨u.g, 3, none⟩) (by simp [Value.ownBlock]; exact hgg) _
  · exact (((((Chg.refl u.fp w).setCell (p := ⟨u.g, 2, none⟩) (fun _ => .inl rfl) _).setCell (p := ⟨u.gs, a, none⟩) (fun _ => .inr (.inr (.inl rfl))) _).setCell (p := ⟨u.gu, b, none⟩) (fun _ => .inr (.inl rfl)) _).setCell (p := ⟨u.g, 3, none⟩) (fun _ => .inl rfl) _)
  · rintro k (rfl | rfl | rfl | hk)
    · exact .inl (.inl rfl)
    · exact .inl (.inr (.inl rfl))
    · exact .inl (.inr (.inr (.inl rfl)))
    · exact .inl (.inr (.inr (.inr (by rw [hd]; exact hk))))

set_option maxHeartbeats 400000 in
theorem back_no (w : World) (u : Uni) (n : Nat) (hs : UF.Hs) (h : UAt w u n hs) (m : Int) (hm : m < 0 ∨ (hs.length : Int) < m) :
    Calls Tryz.prog 97 #[.pointer (some ⟨u.g, 0, none⟩), .int .i64 m] w fun e w' => e = .returned (errVU 1) ∧ w = w' := by
  obtain ⟨A, c, hv, _⟩ := own_slice h.rdn
  have hb0 : w.cell? ⟨u.g, 2, none⟩ = some (.slice A hs.length c) := by rw [← hv]; exact h.blk.cell 2
  clear h hv
  by_cases h1 : m < 0
  · clear hm
    go_enter Tryz.func97, Tryz.ntmps97
    go_wp2
    go_ret
    exact ⟨rfl, rfl⟩
  · have h2 : (hs.length : Int) < m := by omega
    clear hm
    go_enter Tryz.func97, Tryz.ntmps97
    go_wp2
    go_ret
    exact ⟨rfl, rfl⟩

set_option maxHeartbeats 1000000 in
theorem back_yes (w : World) (u : Uni) (n : Nat) (hs : UF.Hs) (h : UAt w u n hs) (m : Nat) (hm : m ≤ hs.length) :
    Calls Tryz.prog 97 #[.pointer (some ⟨u.g, 0, none⟩), .int .i64 m] w (BackPost w u n m hs) := by
  obtain ⟨A, c, hv, _⟩ := own_slice h.rdn
  have hb0 : w.cell? ⟨u.g, 2, none⟩ = some (.slice A hs.length c) := by rw [← hv]; exact h.blk.cell 2
  have HH := Lib.hid h
  have hg : u.g = u.g := rfl
  have t1 : ¬ ((m : Int) < 0) := by omega
  have t2 : decide (hs.length < m) = false := by simp only [decide_eq_false_iff_not]; omega
  clear h hv
  go_enter Tryz.func97, Tryz.ntmps97
  go_wp2
  clear hb0 t2 hg
  go_loopg [5] (hs.length - m) (fun k _ wr => BackRel w u n m hs k wr)
  case atStart => exact ⟨u, hs, [], by omega, rfl, HH.out, Moved.refl _ _⟩
  case round =>
    by_cases e : gk = 0
    · subst e
      have HE := Lib.hid (back_end hrel)
      obtain ⟨u', ks, pre, h1, h2, h3, h4⟩ := hrel
      have hgg := h4.1
      obtain ⟨A', c', hv', _⟩ := own_slice h3.rdn
      have hb0 : wr.cell? ⟨u.g, 2, none⟩ = some (.slice A' ks.length c') := by rw [← hv', ← hgg]; exact h3.blk.cell 2
      have t3 : decide (m < ks.length) = false := by simp only [decide_eq_false_iff_not]; omega
      clear h1 h2 h3 h4 hgg hv'
      go_wp2
      go_ret
      exact HE.out
    · obtain ⟨u', ks, pre, h1, h2, h3, h4⟩ := hrel
      match ks, h1, h2, h3 with
      | [], h1, _, _ => exact absurd h1 (by simp; omega)
      | (a, b) :: ks, h1, h2, h3 =>
        have hgg := h4.1
        obtain ⟨gd, cd, hd, hcd, _⟩ := own_form h3.rdn (by simp)
        simp only [List.length_cons] at hd h1 hcd
        have h1' : Hid (ks.length + 1 = m + gk) := h1
        have HP : Hid (hs = (pre ++ [(a, b)]) ++ ks) := by unfold Hid; rw [h2]; simp
        have HS := Lib.hid (fun k => back_step (h3.drewN k) hd)
        have HM := Lib.hid h4
        obtain ⟨ho, la, lb, ra, rb, hne⟩ := h3.ok
        have b0 : wr.cell? ⟨u.g, 0, none⟩ = some (.slice (some ⟨u'.gu, 0, none⟩) n u'.cu) := by rw [← hgg]; exact h3.blk.cell 0
        have b1 : wr.cell? ⟨u.g, 1, none⟩ = some (.slice (some ⟨u'.gs, 0, none⟩) n u'.cs) := by rw [← hgg]; exact h3.blk.cell 1
        have b2 : wr.cell? ⟨u.g, 2, none⟩ = some (.slice (some ⟨gd, 0, none⟩) (ks.length + 1) cd) := by rw [← hgg, ← hd]; exact h3.blk.cell 2
        have b3 : wr.cell? ⟨u.g, 3, none⟩ = some (.int .i64 ((n : Int) - ((ks.length + 1 : Nat) : Int))) := by rw [← hgg]; exact h3.blk.cell 3
        have d0 : wr.cell? ⟨gd, ks.length, none⟩ = some (.int .i64 (b : Nat)) := by
          have := h3.rdn; rw [hd] at this
          rw [this.cellAt ks.length (by simp)]; simp
        have s1 : wr.cell? ⟨u'.gs, a, none⟩ = some (.int .i64 ((UF.sz ks a + UF.sz ks b : Nat) : Int)) := by rw [h3.sz_cell la]; simp [UF.sz]
        have s2 : wr.cell? ⟨u'.gs, b, none⟩ = some (.int .i64 (UF.sz ks b : Nat)) := by rw [h3.sz_cell lb]; simp [UF.sz, Ne.symm hne]
        have s3 : wr.cell? ⟨u'.gu, b, none⟩ = some (.int .i64 (a : Nat)) := by rw [h3.up_cell lb]; simp [UF.up]
        have f0 : ∀ i, wr.frozen? ⟨u.g, i, none⟩ = false := fun i => by rw [← hgg]; exact h3.blk.frozen i
        have f1 : ∀ i, wr.frozen? ⟨u'.gu, i, none⟩ = false := fun i => h3.rup.frozenAt i
        have f2 : ∀ i, wr.frozen? ⟨u'.gs, i, none⟩ = false := fun i => h3.rsz.frozenAt i
        have n1 : ¬ (u'.gu = u'.gs) := h3.n1
        have n2 : ¬ (u'.gu = u.g) := by rw [← hgg]; exact h3.ggu
        have n3 : ¬ (u'.gs = u.g) := by rw [← hgg]; exact h3.ggs
        have hle := h3.le
        have hll : ks.length < n := by have := UF.len_lt h3.ok h3.pos; simp only [List.length_cons] at this; omega
        have z1 := UF.sz_le h3.ok la
        simp only [UF.sz, if_true] at z1
        have x1 : (0 : Int) ≤ (a : Int) := by omega
        have x2 : (a : Int) < (n : Int) := by omega
        have x3 : (0 : Int) ≤ (b : Int) := by omega
        have x4 : (b : Int) < (n : Int) := by omega
        have x5 : (0 : Int) ≤ (ks.length : Int) := by omega
        have t3 : (m : Int) < (ks.length : Int) + 1 := by omega
        have HG := Lib.hid hgg
        clear h1 h2 h3 h4 hgg hd ra rb ho
        go_wp2
        go_quiet (fail)
        go_wp2
        go_region
        go_wp2
        go_region
        go_wp2
        go_roundg (gk - 1)
        case measure => omega
        case rel =>
          obtain ⟨u2, hU, hM⟩ := HS.out (nq + 1)
          rw [HG.out] at hU hM
          have h1 := h1'.out
          exact ⟨u2, ks, pre ++ [(a, b)], by omega, HP.out, hU.drew, HM.out.trans ((Moved.same u' (below_drewN' (Below.refl _ _) (nq + 1))).trans ⟨hM.1, hM.2.1.drew, hM.2.2⟩)⟩

/-- Join for every two numbers: the hangs behind it; whether something new was joined. -/
def joinI (n : Nat) (hs : UF.Hs) (a b : Int) : UF.Hs := if nodeB n [a, b] then UF.join hs a.toNat b.toNat else hs
def joinB (n : Nat) (hs : UF.Hs) (a b : Int) : Bool := nodeB n [a, b] && UF.rt hs a.toNat != UF.rt hs b.toNat
def joinE (n : Nat) (a b : Int) : Value := if nodeB n [a, b] then .nilIface else errVU 1
def JoinAny (w : World) (u : Uni) (n : Nat) (hs : UF.Hs) (a b : Int) (e : Ending) (w' : World) : Prop :=
  ∃ u' : Uni, e = .returned (.tuple #[.bool (joinB n hs a b), joinE n a b]) ∧ UAt w' u' n (joinI n hs a b) ∧ Moved w u u' w'
theorem join_any (w : World) (u : Uni) (n : Nat) (hs : UF.Hs) (h : UAt w u n hs) (a b : Int) :
    Calls Tryz.prog 36 #[.pointer (some ⟨u.g, 0, none⟩), .int .i64 a, .int .i64 b] w (JoinAny w u n hs a b) := by
  by_cases hr : nodeB n [a, b] = true
  · have hr' := hr
    simp [nodeB] at hr'
    obtain ⟨⟨a0, a1⟩, b0, b1⟩ := hr'
    obtain ⟨a, rfl⟩ := Int.eq_ofNat_of_zero_le a0
    obtain ⟨b, rfl⟩ := Int.eq_ofNat_of_zero_le b0
    have ha : a < n := by omega
    have hb : b < n := by omega
    by_cases e : UF.rt hs a = UF.rt hs b
    · refine (join_same w u n hs h a b ha hb e).mono ?_
      rintro e1 w' ⟨rfl, hb'⟩
      exact ⟨u, by simp [joinB, joinE, hr, e], by simp only [joinI, hr, if_true, UF.join, Int.toNat_natCast, e]; exact h.new hb', Moved.same u hb'⟩
    · by_cases hsz : UF.sz hs (UF.rt hs a) < UF.sz hs (UF.rt hs b)
      · refine (join_yes w u n hs h a b (UF.rt hs b) (UF.rt hs a) ha hb (fun e' => e e'.symm) (.inr ⟨rfl, rfl, hsz⟩)).mono ?_
        rintro e1 w' ⟨u', rfl, hU, hM⟩
        exact ⟨u', by simp [joinB, joinE, hr, e], by simp only [joinI, hr, if_true, UF.join, Int.toNat_natCast, e, if_false, hsz]; exact hU, hM⟩
      · refine (join_yes w u n hs h a b (UF.rt hs a) (UF.rt hs b) ha hb e (.inl ⟨rfl, rfl, hsz⟩)).mono ?_
        rintro e1 w' ⟨u', rfl, hU, hM⟩
        exact ⟨u', by simp [joinB, joinE, hr, e], by simp only [joinI, hr, if_true, UF.join, Int.toNat_natCast, e, if_false, hsz]; exact hU, hM⟩
  · have hr' : nodeB n [a, b] = false := by simpa using hr
    refine (join_no w u n hs h a b hr').mono ?_
    rintro e1 w' ⟨rfl, hb'⟩
    exact ⟨u, by simp [joinB, joinE, hr'], by simp only [joinI, hr', Bool.false_eq_true, if_false]; exact h.new hb', Moved.same u hb'⟩
end Go.Proofs.YthgniehfejklhaaGreat
namespace Go.Proofs.YthgniehfejklhaaGreat
open Go Go.RowKit
set_option linter.unusedVariables false

/-- What Join leaves, of two nodes that there are. -/
def JoinIn (w : World) (u : Uni) (n : Nat) (hs : UF.Hs) (a b : Int) (e : Ending) (w' : World) : Prop :=
  ∃ u' : Uni, e = .returned (.tuple #[.bool (UF.rt hs a.toNat != UF.rt hs b.toNat), .nilIface]) ∧ UAt w' u' n (UF.join hs a.toNat b.toNat) ∧ Moved w u u' w'
theorem join_in {w : World} {u : Uni} {n g : Nat} {hs : UF.Hs} (h : UAt w u n hs) (hg : u.g = g) (a b : Int) (ha : 0 ≤ a ∧ a < n) (hb : 0 ≤ b ∧ b < n) :
    Calls Tryz.prog 36 #[.pointer (some ⟨g, 0, none⟩), .int .i64 a, .int .i64 b] w (JoinIn w u n hs a b) := by
  subst hg
  have hr : nodeB n [a, b] = true := by unfold nodeB; simp; omega
  refine (join_any w u n hs h a b).mono ?_
  rintro e w' ⟨u', rfl, h1, h2⟩
  exact ⟨u', by simp [joinB, joinE, hr], by simpa only [joinI, hr, if_true] using h1, h2⟩
theorem same_in {w : World} {u : Uni} {n g : Nat} {hs : UF.Hs} (h : UAt w u n hs) (hg : u.g = g) (a b : Int) (ha : 0 ≤ a ∧ a < n) (hb : 0 ≤ b ∧ b < n) :
    Calls Tryz.prog 38 #[.pointer (some ⟨g, 0, none⟩), .int .i64 a, .int .i64 b] w fun e w' => e = .returned (.tuple #[.bool (UF.rt hs a.toNat == UF.rt hs b.toNat), .nilIface]) ∧ Below w.heap.size w w' := by
  subst hg
  obtain ⟨a', rfl⟩ := Int.eq_ofNat_of_zero_le ha.1
  obtain ⟨b', rfl⟩ := Int.eq_ofNat_of_zero_le hb.1
  exact same_yes w u n hs h a' b' (by omega) (by omega)
theorem mark_in {w : World} {u : Uni} {n g : Nat} {hs : UF.Hs} (h : UAt w u n hs) (hg : u.g = g) :
    Calls Tryz.prog 96 #[.pointer (some ⟨g, 0, none⟩)] w fun e w' => e = .returned (.int .i64 (hs.length : Nat)) ∧ w = w' := by subst hg; exact mark_any w u n hs h
theorem back_in {w : World} {u : Uni} {n g : Nat} {hs : UF.Hs} (h : UAt w u n hs) (hg : u.g = g) (m : Nat) (hm : m ≤ hs.length) :
    Calls Tryz.prog 97 #[.pointer (some ⟨g, 0, none⟩), .int .i64 m] w (BackPost w u n m hs) := by subst hg; exact back_yes w u n hs h m hm
end Go.Proofs.YthgniehfejklhaaGreat
