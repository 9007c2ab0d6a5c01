/-
  Walks of union.root, node, Same, Size, Parts, Mark over a union in memory ('UAt': it reads as a list of hangs). Condition: the union lies in memory as 'UAt' says; root is asked for a node that there is.
  span.Check: what is wrong with edges that weigh something. Condition: the edges lie in memory as 'HvAt' says.
-/
import Derived.Test.YtckcbfnffmohgaaGreatRows
import Derived.Test.YtckcbfnffmohgaaGreatTt3
import Derived.Test.YtckcbfnffmohgaaGreatTt1
import Derived.WalkKit
import Derived.WalkSpells
import Derived.Lib.Hide
import Derived.Outline
import Derived.Deep.QuietTactic
import Derived.BigQuiet
import Derived.Deep.RegionHeld3
import Derived.Deep.DeepFit
import Derived.Test.YtckcbfnffmohgaaGreatTt40
import Derived.Test.YtckcbfnffmohgaaGreatTt2
namespace Go.Proofs.YtckcbfnffmohgaaGreat
open Go Go.RowKit

/-- Where a union lies: its struct's block, the rows up and size, the row done. -/
structure Uni where
  g : Nat
  gu : Nat
  cu : Nat
  gs : Nat
  cs : Nat
  dv : Value

/-- Its blocks. -/
def Uni.fp (u : Uni) (k : Nat) : Prop := k = u.g ∨ k = u.gu ∨ k = u.gs ∨ u.dv.ownBlock = some k
def i64v (f : Nat → Nat) (n : Nat) : List Value := (List.range n).map fun i => .int .i64 (f i : Nat)
theorem i64v_get {f : Nat → Nat} {n i : Nat} (h : i < n) : (i64v f n)[i]? = some (.int .i64 (f i : Nat)) := by simp [i64v, h]

structure UAt (w : World) (u : Uni) (n : Nat) (hs : UF.Hs) : Prop where
  ok : UF.Ok n hs
  pos : 0 < n
  le : n ≤ 60
  blk : Blk w u.g 70 #[.slice (some ⟨u.gu, 0, none⟩) n u.cu, .slice (some ⟨u.gs, 0, none⟩) n u.cs, u.dv, .int .i64 ((n : Int) - (hs.length : Int))]
  rup : w.ownsRow 0 3 1 (.slice (some ⟨u.gu, 0, none⟩) n u.cu) n (i64v (UF.up hs) n)
  rsz : w.ownsRow 0 3 1 (.slice (some ⟨u.gs, 0, none⟩) n u.cs) n (i64v (UF.sz hs) n)
  rdn : w.ownsRow 0 3 1 u.dv hs.length (hs.reverse.map fun p => .int .i64 (p.2 : Nat))
  n1 : u.gu ≠ u.gs
  n2 : u.dv.ownBlock ≠ some u.gu
  n3 : u.dv.ownBlock ≠ some u.gs

theorem UAt.up_cell {w : World} {u : Uni} {n : Nat} {hs : UF.Hs} (h : UAt w u n hs) {i : Nat} (hi : i < n) : w.cell? ⟨u.gu, i, none⟩ = some (.int .i64 (UF.up hs i : Nat)) := by
  rw [h.rup.cellAt i (by omega), i64v_get hi]
theorem UAt.sz_cell {w : World} {u : Uni} {n : Nat} {hs : UF.Hs} (h : UAt w u n hs) {i : Nat} (hi : i < n) : w.cell? ⟨u.gs, i, none⟩ = some (.int .i64 (UF.sz hs i : Nat)) := by
  rw [h.rsz.cellAt i (by omega), i64v_get hi]
theorem UAt.ggu {w : World} {u : Uni} {n : Nat} {hs : UF.Hs} (h : UAt w u n hs) : u.gu ≠ u.g := by
  have := own_ne h.rup h.blk (by decide); simpa [Value.ownBlock] using this
theorem UAt.ggs {w : World} {u : Uni} {n : Nat} {hs : UF.Hs} (h : UAt w u n hs) : u.gs ≠ u.g := by
  have := own_ne h.rsz h.blk (by decide); simpa [Value.ownBlock] using this
theorem UAt.ggd {w : World} {u : Uni} {n : Nat} {hs : UF.Hs} (h : UAt w u n hs) : u.dv.ownBlock ≠ some u.g := own_ne h.rdn h.blk (by decide)
theorem UAt.lt {w : World} {u : Uni} {n : Nat} {hs : UF.Hs} (h : UAt w u n hs) {k : Nat} (hk : u.fp k) : k < w.heap.size := by
  rcases hk with rfl | rfl | rfl | hk
  · exact h.blk.lt
  · exact own_lt h.rup (by simp [Value.ownBlock])
  · exact own_lt h.rsz (by simp [Value.ownBlock])
  · exact own_lt h.rdn hk
theorem UAt.chg {S : Nat → Prop} {w w' : World} {u : Uni} {n : Nat} {hs : UF.Hs} (h : UAt w u n hs) (hc : Chg S w w') (hn : ∀ k, u.fp k → ¬ S k) : UAt w' u n hs :=
  ⟨h.ok, h.pos, h.le, h.blk.chg hc (hn _ (.inl rfl)), own_chg h.rup hc (by intro k hk; simp [Value.ownBlock] at hk; exact hn k (.inr (.inl hk.symm))),
   own_chg h.rsz hc (by intro k hk; simp [Value.ownBlock] at hk; exact hn k (.inr (.inr (.inl hk.symm)))), own_chg h.rdn hc (fun k hk => hn k (.inr (.inr (.inr hk)))), h.n1, h.n2, h.n3⟩

set_option maxHeartbeats 400000 in
theorem root_any (w : World) (u : Uni) (n : Nat) (hs : UF.Hs) (h : UAt w u n hs) (a : Nat) (ha : a < n) :
    Calls Tryz.prog 26 #[.pointer (some ⟨u.g, 0, none⟩), .int .i64 a] w fun e w' => e = .returned (.int .i64 (UF.rt hs a : Nat)) ∧ w = w' := by
  have HH := Lib.hid h
  have hb0 : w.cell? ⟨u.g, 0, none⟩ = some (.slice (some ⟨u.gu, 0, none⟩) n u.cu) := h.blk.cell 0
  have hle := h.le
  clear h
  go_enter Tryz.func26, Tryz.ntmps26
  go_wp2
  go_loop [1] (fun v => ∃ k : Nat, k < n ∧ UF.rt hs k = UF.rt hs a ∧ v = .int .i64 k) (fun v => UF.dist hs (intOf v).toNat)
  case atStart => exact ⟨a, ha, rfl, rfl⟩
  case round =>
    obtain ⟨k, hk, hr, rfl⟩ := hrel
    have hc := HH.out.up_cell hk
    have H1 := Lib.hid hr
    clear hr
    have hul : UF.up hs k < n := UF.up_lt HH.out.ok hk
    by_cases e : UF.up hs k = k
    · have H2 := Lib.hid e
      have e2 : (((UF.up hs k : Nat) : Int) != (k : Int)) = false := by simp [e]
      clear e
      go_wp2
      go_ret
      exact ⟨by rw [← H1.out, (UF.up_self HH.out.ok).1 H2.out]; rfl, rfl⟩
    · have H2 := Lib.hid e
      have e2 : (((UF.up hs k : Nat) : Int) != (k : Int)) = true := by rw [bne_iff_ne]; omega
      clear e
      go_wp2
      go_round
      case rel => exact ⟨UF.up hs k, hul, (UF.rt_up HH.out.ok).trans H1.out, rfl⟩
      case measure => simpa [intOf] using UF.dist_up HH.out.ok H2.out

/-- Are all of them nodes? -/
def nodeB (n : Nat) (xs : List Int) : Bool := xs.all fun a => decide (0 ≤ a) && decide (a < n)
theorem ret_bool {a b : Bool} (h : a = b) : Ending.returned (.bool a) = .returned (.bool b) := by rw [h]
set_option maxHeartbeats 400000 in
theorem node_any (w : World) (u : Uni) (n : Nat) (hs : UF.Hs) (h : UAt w u n hs) (b m : Nat) (hm : m ≤ 10) (xs : List Int) (hl : xs.length = m)
    (hx : ∀ j, j < m → w.cell? ⟨b, j, none⟩ = some (.int .i64 (xs.getD j 0))) (r : Bool) (hr : nodeB n xs = r) :
    Calls Tryz.prog 25 #[.pointer (some ⟨u.g, 0, none⟩), .slice (some ⟨b, 0, none⟩) m m] w fun e w' => e = .returned (.bool r) ∧ w = w' := by
  have HX := Lib.hid hx
  have HL := Lib.hid hl
  have HR := Lib.hid hr
  have hb0 : w.cell? ⟨u.g, 0, none⟩ = some (.slice (some ⟨u.gu, 0, none⟩) n u.cu) := h.blk.cell 0
  have hle := h.le
  clear h hx hl hr
  go_enter Tryz.func25, Tryz.ntmps25
  go_wp2
  go_loop [9] (fun v => ∃ k : Nat, k ≤ m ∧ (∀ j, j < k → 0 ≤ xs.getD j 0 ∧ xs.getD j 0 < n) ∧ v = .int .i64 k) (fun v => m - (intOf v).toNat)
  case atStart => exact ⟨0, Nat.zero_le _, fun j hj => by omega, rfl⟩
  case round =>
    obtain ⟨k, hk, hall, rfl⟩ := hrel
    have HA := Lib.hid hall
    clear hall
    by_cases hlt : k < m
    · have hc := HX.out k hlt
      obtain ⟨x, hx⟩ : ∃ x, x = xs.getD k 0 := ⟨_, rfl⟩
      rw [← hx] at hc
      have HE := Lib.hid hx
      clear hx
      have hbad : Hid (x < 0 ∨ (n : Int) ≤ x → false = r) := by
        intro hb
        have hx := HE.out
        rw [← HR.out]; symm; unfold nodeB; rw [List.all_eq_false]
        refine ⟨xs.getD k 0, ?_, by simp only [Bool.and_eq_true, decide_eq_true_eq]; omega⟩
        rw [List.getD_eq_getElem?_getD, List.getElem?_eq_getElem (by rw [HL.out]; exact hlt)]; exact List.getElem_mem _
      by_cases c1 : x < 0
      · go_wp2
        go_ret
        exact ⟨ret_bool (hbad.out (.inl c1)), rfl⟩
      · by_cases c2 : x < n
        · have c3 : decide ((n : Int) ≤ x) = false := by simp only [decide_eq_false_iff_not]; omega
          go_wp2
          go_round
          case rel =>
            refine ⟨k + 1, by omega, fun j hj => ?_, by go_num⟩
            by_cases e : j = k
            · subst e; rw [← HE.out]; omega
            · exact HA.out j (by omega)
          case measure => simp [intOf]; omega
        · have c3 : (n : Int) ≤ x := by omega
          go_wp2
          go_ret
          exact ⟨ret_bool (hbad.out (.inr c3)), rfl⟩
    · go_wp2
      go_ret
      refine ⟨ret_bool ?_, rfl⟩
      rw [← HR.out]; symm; unfold nodeB; rw [List.all_eq_true]
      intro x hx
      obtain ⟨j, hj, rfl⟩ := List.getElem_of_mem hx
      have hj' := HL.out
      have := HA.out j (by omega)
      rw [List.getD_eq_getElem?_getD, List.getElem?_eq_getElem hj] at this
      simp only [Option.getD_some] at this
      simp [this]

/-- An error of this program. -/
abbrev errVU (n : Int) : Value := .iface 66 (.int .i64 n)
theorem own_slice {w : World} {base : Nat} {e : TypeId} {size : Nat} {v : Value} {n : Nat} {xs : List Value} (h : w.ownsRow base e size v n xs) : ∃ A c, v = .slice A n c ∧ n ≤ c := by
  rcases h.2 with ⟨rfl, rfl⟩ | ⟨g, cap, cur, rfl, _, _, h1, _⟩
  · exact ⟨none, 0, rfl, Nat.le_refl _⟩
  · exact ⟨_, cap, rfl, h1⟩
theorem cell2 {w : World} {b : Nat} {t : TypeId} {a c : Int} (h : Blk w b t #[.int .i64 a, .int .i64 c]) : ∀ j, j < 2 → w.cell? ⟨b, j, none⟩ = some (.int .i64 ([a, c].getD j 0)) := by
  intro j hj
  rw [h.cell]
  match j, hj with
  | 0, _ => rfl
  | 1, _ => rfl
theorem UAt.new {w w' : World} {u : Uni} {n : Nat} {hs : UF.Hs} (h : UAt w u n hs) (hb : Below w.heap.size w w') : UAt w' u n hs :=
  h.chg (Chg.new hb (fun _ => False)) (fun _ _ hf => hf)
theorem UAt.alloc {w : World} {u : Uni} {n : Nat} {hs : UF.Hs} (h : UAt w u n hs) (o : Obj) : UAt (w.alloc o) u n hs := h.new ((Below.refl _ _).alloc (Nat.le_refl _) o)
theorem UAt.drewN {w : World} {u : Uni} {n : Nat} {hs : UF.Hs} (h : UAt w u n hs) (k : Nat) : UAt (w.drewN k) u n hs := h.new ⟨rfl, rfl, rfl, Nat.le_refl _, fun _ _ => rfl⟩

end Go.Proofs.YtckcbfnffmohgaaGreat
namespace Go.Proofs.YtckcbfnffmohgaaGreat
open Go Go.RowKit NK
set_option linter.unusedVariables false

def errH (x : Int) : Value := if x = 0 then .nilIface else errVU x
theorem errH_ne {x : Int} (h : x ≠ 0) : errH x = errVU x := by simp [errH, h]
/-- What is wrong with the edge at a place. -/
def hBad (n : Int) (x : He) : Prop := x.1.1 < 0 ∨ x.1.2 ≤ x.1.1 ∨ n ≤ x.1.2 ∨ x.2 < 0 ∨ 1000000 < x.2
instance (n : Int) (x : He) : Decidable (hBad n x) := by unfold hBad; infer_instance
def hfGo (n : Int) : List He → Nat → Int × Int
  | [], _ => (0, 0)
  | x :: L, i => if hBad n x then ((i : Int), 1) else hfGo n L (i + 1)
/-- What is wrong with edges: the place, the fault. -/
def hvF (n : Int) (L : List He) : Int × Int := if n < 1 ∨ 60 < n then (0, 1) else if 200 < L.length then (0, 3) else hfGo n L 0
theorem hfGo_ok {n : Int} {L : List He} {i : Nat} {x : He} (hx : L[i]? = some x) (h : ¬ hBad n x) : hfGo n (L.drop i) i = hfGo n (L.drop (i + 1)) (i + 1) := by
  obtain ⟨hi, he⟩ := List.getElem?_eq_some_iff.1 hx
  rw [List.drop_eq_getElem_cons hi, he, hfGo, if_neg h]
theorem hfGo_bad {n : Int} {L : List He} {i : Nat} {x : He} (hx : L[i]? = some x) (h : hBad n x) : hfGo n (L.drop i) i = ((i : Int), 1) := by
  obtain ⟨hi, he⟩ := List.getElem?_eq_some_iff.1 hx
  rw [List.drop_eq_getElem_cons hi, he, hfGo, if_pos h]
theorem hfGo_zero {n : Int} : ∀ {L : List He} {i : Nat}, (hfGo n L i).2 = 0 → ∀ x ∈ L, ¬ hBad n x
  | [], _, _, x, hx => by cases hx
  | y :: L, i, h, x, hx => by
    rw [hfGo] at h
    by_cases c : hBad n y
    · rw [if_pos c] at h; simp at h
    · rw [if_neg c] at h
      rcases List.mem_cons.1 hx with rfl | hx
      · exact c
      · exact hfGo_zero h x hx
theorem hfGo_all {n : Int} : ∀ {L : List He} {i : Nat}, (∀ x ∈ L, ¬ hBad n x) → hfGo n L i = (0, 0)
  | [], _, _ => rfl
  | y :: L, i, h => by rw [hfGo, if_neg (h y (List.mem_cons_self ..)), hfGo_all fun x hx => h x (List.mem_cons_of_mem _ hx)]
/-- No fault just if they may be. -/
theorem okH_of {n : Int} {L : List He} : (hvF n L).2 = 0 ↔ OkH n L := by
  unfold hvF
  constructor
  · intro h
    by_cases h1 : n < 1 ∨ 60 < n
    · rw [if_pos h1] at h; simp at h
    rw [if_neg h1] at h
    by_cases h2 : 200 < L.length
    · rw [if_pos h2] at h; simp at h
    rw [if_neg h2] at h
    refine ⟨by omega, by omega, by omega, fun x hx => ?_⟩
    have := hfGo_zero h x hx
    unfold hBad at this
    omega
  · intro h
    have := h.n1; have := h.n2; have := h.len
    rw [if_neg (by omega), if_neg (by omega), hfGo_all]
    intro x hx
    have := h.ok x hx
    unfold hBad
    omega
def HcPost (w : World) (r : Int × Int) (e : Ending) (w' : World) : Prop := e = .returned (.tuple #[.int .i64 r.1, errH r.2]) ∧ Ext w w'
set_option maxHeartbeats 4000000 in
set_option maxRecDepth 100000 in
theorem scheck_any (w : World) (n : Int) (A : Option Addr) (len c : Nat) (L : List He) (hl : L.length = len) (hlm : len ≤ 9223372036854775807) (h : HvAt w A L) :
    Calls Tryz.prog 22 #[.int .i64 n, .slice A len c] w (HcPost w (hvF n L)) := by
  have H := Lib.hid h
  have HL := Lib.hid hl
  clear h hl
  by_cases h1 : n < 1
  · have hp : Hid (hvF n L = (0, 1)) := by unfold Hid hvF; rw [if_pos (.inl h1)]
    go_enter Tryz.func22, Tryz.ntmps22
    go_wp2
    go_ret2
    exact ⟨by rw [hp.out]; rfl, Ext.refl _⟩
  by_cases h2 : 60 < n
  · have hp : Hid (hvF n L = (0, 1)) := by unfold Hid hvF; rw [if_pos (.inr h2)]
    go_enter Tryz.func22, Tryz.ntmps22
    go_wp2
    go_ret2
    exact ⟨by rw [hp.out]; rfl, Ext.refl _⟩
  by_cases h3 : 200 < len
  · have hp : Hid (hvF n L = (0, 3)) := by unfold Hid hvF; rw [if_neg (by omega), HL.out, if_pos h3]
    have h3' : (200 : Int) < (len : Int) := by omega
    go_enter Tryz.func22, Tryz.ntmps22
    go_wp2
    go_ret2
    exact ⟨by rw [hp.out]; rfl, Ext.refl _⟩
  have hp : Hid (hvF n L = hfGo n (L.drop 0) 0) := by unfold Hid hvF; rw [if_neg (by omega), HL.out, if_neg h3]; rfl
  have h3' : ¬ (200 : Int) < (len : Int) := by omega
  clear h3
  go_enter Tryz.func22, Tryz.ntmps22
  go_wp2
  go_loopw [21] (fun v wr => ∃ i : Nat, i ≤ len ∧ v = .int .i64 i ∧ Hid (Ext w wr ∧ hvF n L = hfGo n (L.drop i) i)) (fun v _ => len - (intOf v).toNat)
  case atStart => exact ⟨0, by omega, rfl, Ext.refl _, hp.out⟩
  case round =>
    obtain ⟨i, hi, rfl, hR⟩ := hrel
    clear hp
    have HE : Hid (Ext w wr) := hR.out.1
    have HF : Hid (hvF n L = hfGo n (L.drop i) i) := hR.out.2
    clear hR
    by_cases hil : i < len
    · have hil' : (i : Int) < (len : Int) := by omega
      have hi0 : (0 : Int) ≤ (i : Int) := by omega
      obtain ⟨bs, off, x, rfl, hbs, hx, a0, a1, a2⟩ := (H.out.ext HE.out).at_ (i := i) (by rw [HL.out]; exact hil)
      have HX := Lib.hid hx
      obtain ⟨⟨x1, x2⟩, x3⟩ := x
      have HN : Hid (Ext w (wr.alloc (.cells #[.int .i64 x1, .int .i64 x2, .int .i64 x3] 34))) := Ext.trans HE.out (Ext.alloc _ _)
      simp only at a0 a1 a2
      clear hx
      by_cases c1 : x1 < 0
      · have HP : Hid (hvF n L = ((i : Int), 1)) := by rw [Hid, HF.out]; exact hfGo_bad HX.out (.inl c1)
        clear HF
        go_wp2
        go_ret2
        exact ⟨by rw [HP.out]; rfl, HN.out⟩
      by_cases c2 : x2 ≤ x1
      · have HP : Hid (hvF n L = ((i : Int), 1)) := by rw [Hid, HF.out]; exact hfGo_bad HX.out (.inr (.inl c2))
        clear HF
        go_wp2
        go_ret2
        exact ⟨by rw [HP.out]; rfl, HN.out⟩
      by_cases c3 : n ≤ x2
      · have HP : Hid (hvF n L = ((i : Int), 1)) := by rw [Hid, HF.out]; exact hfGo_bad HX.out (.inr (.inr (.inl c3)))
        clear HF
        go_wp2
        go_ret2
        exact ⟨by rw [HP.out]; rfl, HN.out⟩
      by_cases c4 : x3 < 0
      · have HP : Hid (hvF n L = ((i : Int), 1)) := by rw [Hid, HF.out]; exact hfGo_bad HX.out (.inr (.inr (.inr (.inl c4))))
        clear HF
        go_wp2
        go_ret2
        exact ⟨by rw [HP.out]; rfl, HN.out⟩
      by_cases c5 : 1000000 < x3
      · have HP : Hid (hvF n L = ((i : Int), 1)) := by rw [Hid, HF.out]; exact hfGo_bad HX.out (.inr (.inr (.inr (.inr c5))))
        clear HF
        go_wp2
        go_ret2
        exact ⟨by rw [HP.out]; rfl, HN.out⟩
      have HP : Hid (hvF n L = hfGo n (L.drop (i + 1)) (i + 1)) := by
        rw [Hid, HF.out]
        refine hfGo_ok HX.out ?_
        unfold hBad
        simp only
        omega
      clear HF
      go_wp2
      go_roundw
      case rel => exact ⟨i + 1, by omega, by go_num, HN.out, HP.out⟩
      case measure => simp [intOf]; omega
    · have e : i = len := by omega
      have HP : Hid (hvF n L = (0, 0)) := by
        rw [Hid, HF.out, e, ← HL.out, List.drop_length]; rfl
      subst e
      clear HF
      go_wp2
      go_ret2
      exact ⟨by rw [HP.out]; rfl, HE.out⟩
end Go.Proofs.YtckcbfnffmohgaaGreat
