/-
  Walk of graph's Add. Condition: the graph lies in memory as 'GrI' says.
  Walk of graph's Add where all is right. Condition: the graph lies in memory as 'GrI' says.
  Towards graph's mend: a map of nodes; what becomes of the graph when an edge goes up, when one is found. Conditions: the graph lies in memory as 'GrM' says.
-/
import Derived.Test.YtlcnoihmhaaekaaGreatDoorBs30
import Derived.Test.YtlcnoihmhaaekaaGreatDoorBs31
namespace Go.Proofs.YtlcnoihmhaaekaaGreatDoor
open Go Go.RowKit SQ TR DF PD
set_option linter.unusedVariables false

/-- A graph of which all holds. -/
structure GrI (w : World) (G : GrP) (n N : Nat) (A : List AK.Ed) (f : AK.Ed → GM.St) : Prop where
  m : GrM w G n N A f (GM.lvl f A)
  k : GM.GOk n G.Fs.length A f
  few : G.Fs.length ≤ 6
  nN : n ≤ N
section
variable {w w' : World} {G : GrP} {n N N' : Nat} {A : List AK.Ed} {f : AK.Ed → GM.St} {Es : Nat → List AK.Ed}
theorem GrI.ext (h : GrI w G n N A f) (hx : Ext w w') : GrI w' G n N A f := ⟨h.m.ext hx, h.k, h.few, h.nN⟩
theorem GrI.mono (h : GrI w G n N A f) (hN : N ≤ N') : GrI w G n N' A f := ⟨h.m.mono hN, h.k, h.few, Nat.le_trans h.nN hN⟩
theorem GrM.lenE (h : GrM w G n N A f Es) (ty : TypeId) : (Builtin.len_ #[81] ty #[.map (some G.eb)]).run Tryz.prog w = .ok (.int .i64 A.length) w := by
  obtain ⟨me, m1, m2⟩ := h.edges
  obtain ⟨D, h1, h2, h3⟩ := m1
  have := h1.len Tryz.underlying81 ty
  rw [h2] at this
  exact this
/-- What is read of a graph and of a box with an edge. -/
structure GRd (W : World) (G : GrP) (B : Nat) (u v : Int) (x : AK.Ed) (z : Value) (ok : Bool) : Prop where
  c1 : W.cell? ⟨G.gb, 1, none⟩ = some (.map (some G.eb))
  y0 : W.cell? ⟨B, 0, none⟩ = some (.int .i64 u)
  y1 : W.cell? ⟨B, 1, none⟩ = some (.int .i64 v)
  lk : (Instr.lookup 81 (.map (some G.eb)) (.agg #[.int .i64 u, .int .i64 v]) true).run Tryz.prog W = .ok (.tuple #[z, .bool ok]) W
theorem GrM.read (h : GrM w G n N A f Es) {B : Nat} {u v : Int} (hB : Blk w B 87 #[.int .i64 u, .int .i64 v]) (hx : okE (u, v)) {z : Value} {ok : Bool} (hz : (if (u, v) ∈ A then stV (f (u, v)) else .agg #[.int .i64 0, .bool false]) = z) (hk : decide ((u, v) ∈ A) = ok)
    {W : World} (hW : Ext w W) : GRd W G B u v (u, v) z ok := by
  have hlt := h.blk.lt
  have h' := h.ext hW
  have hB' : Blk W B 87 #[.int .i64 u, .int .i64 v] := hB.chg (Chg.of_below hW) (by have := hB.lt; omega)
  exact ⟨h'.blk.cell 1, hB'.cell 0, hB'.cell 1, h'.look_ok (u, v) hx hz hk⟩
end
section
variable {w : World} {G : GrP} {n N : Nat} {A : List AK.Ed} {f : AK.Ed → GM.St} {Es : Nat → List AK.Ed}
theorem edV_ek (a b : Int) : edV (AK.ek a b) = .agg #[.int .i64 (min a b), .int .i64 (max a b)] := rfl
def addFault (n : Nat) (A : List AK.Ed) (a b : Int) : Nat := if ¬ (0 ≤ a ∧ a < n) ∨ ¬ (0 ≤ b ∧ b < n) then 1 else if a = b then 2 else if AK.ek a b ∈ A then 6 else if A.length = 200 then 3 else 0
def GAddPost (w : World) (G : GrP) (n N : Nat) (A : List AK.Ed) (f : AK.Ed → GM.St) (a b : Int) (e : Ending) (w' : World) : Prop :=
  (∃ k, addFault n A a b = k ∧ k ≠ 0 ∧ e = .returned (errV k) ∧ Ext w w') ∨ (addFault n A a b = 0 ∧ ∃ s, e = .returned .nilIface ∧ GrI w' G n (N + 2) (putE (AK.ek a b) A) (GM.updS f (AK.ek a b) ⟨0, s⟩) ∧ GrC w w' G G)
theorem GRd.lkE {W : World} {B : Nat} {u v : Int} {z : Value} {ok : Bool} (h : GRd W G B u v (u, v) z ok) : GRd W G B u v (u, v) z ok := h
set_option maxRecDepth 100000 in
set_option maxHeartbeats 2000000 in
theorem gadd_bad (h : GrI w G n N A f) (a b : Int) (ha : -9223372036854775808 ≤ a ∧ a ≤ 9223372036854775807) (hb : -9223372036854775808 ≤ b ∧ b ≤ 9223372036854775807) {k : Nat} (hk : addFault n A a b = k) (hk0 : k ≠ 0) :
    Calls Tryz.prog 13 #[.pointer (some ⟨G.gb, 0, none⟩), .int .i64 a, .int .i64 b] w fun e w' => e = .returned (errV k) ∧ Ext w w' := by
  have h60 := h.m.hn
  have H := Lib.hid h.m
  have hxx : okE (AK.ek a b) := ⟨WalkArith.wf_i64 (by unfold AK.ek; simp only; omega), WalkArith.wf_i64 (by unfold AK.ek; simp only; omega)⟩
  have HK : Hid (addFault n A a b = k ∧ k ≠ 0) := ⟨hk, hk0⟩
  obtain ⟨z, hz⟩ : ∃ z : GM.St, (if AK.ek a b ∈ A then stV (f (AK.ek a b)) else .agg #[.int .i64 0, .bool false]) = stV z := by
    by_cases q : AK.ek a b ∈ A
    · exact ⟨_, if_pos q⟩
    · exact ⟨⟨0, false⟩, if_neg q⟩
  obtain ⟨ok, hok⟩ : ∃ ok, decide (AK.ek a b ∈ A) = ok := ⟨_, rfl⟩
  have HX : Hid (okE (AK.ek a b) ∧ (if AK.ek a b ∈ A then stV (f (AK.ek a b)) else .agg #[.int .i64 0, .bool false]) = stV z ∧ decide (AK.ek a b ∈ A) = ok) := ⟨hxx, hz, hok⟩
  have hkk : Hid ((¬ (0 ≤ a ∧ a < n) ∨ ¬ (0 ≤ b ∧ b < n)) ∧ k = 1 ∨ ((0 ≤ a ∧ a < n) ∧ (0 ≤ b ∧ b < n)) ∧ a = b ∧ k = 2 ∨ ((0 ≤ a ∧ a < n) ∧ (0 ≤ b ∧ b < n)) ∧ a ≠ b ∧ ok = true ∧ k = 6 ∨ ((0 ≤ a ∧ a < n) ∧ (0 ≤ b ∧ b < n)) ∧ a ≠ b ∧ ok = false ∧ A.length = 200 ∧ k = 3) := by
    unfold addFault at hk
    split at hk
    · left; exact ⟨by assumption, hk.symm⟩
    · rename_i q
      have q2 : (0 ≤ a ∧ a < n) ∧ (0 ≤ b ∧ b < n) := by omega
      split at hk
      · right; left; exact ⟨q2, by assumption, hk.symm⟩
      · split at hk
        · right; right; left; exact ⟨q2, by assumption, by rw [← hok]; simpa using by assumption, hk.symm⟩
        · split at hk
          · right; right; right; exact ⟨q2, by assumption, by rw [← hok]; simpa using by assumption, by assumption, hk.symm⟩
          · exact absurd hk.symm hk0
  have HN : Hid (∀ W, Ext w W → ∀ (c : Int) (r : Bool), r = decide (0 ≤ c ∧ c < n) → Calls Tryz.prog 42 #[.pointer (some ⟨G.gb, 0, none⟩), .int .i64 c] W fun e w' => e = .returned (.bool r) ∧ W = w') := fun W hW c r hr => gnode_any (h.m.ext hW) c r hr
  have HL : Hid (∀ W, Ext w W → ∀ ty, (Builtin.len_ #[81] ty #[.map (some G.eb)]).run Tryz.prog W = .ok (.int .i64 A.length) W) := fun W hW ty => (h.m.ext hW).lenE ty
  clear hxx hz hok hk hk0 h
  go_enter Tryz.func13, Tryz.ntmps13
  go_wp2_with fail
  refine (of_any _ a b).mono ?_
  rintro e w1 ⟨rfl, hb1⟩
  have X1 : Hid (Ext w w1) := hb1
  rw [edV_ek]
  have HXA : Hid (okE (min a b, max a b) ∧ (if (min a b, max a b) ∈ A then stV (f (min a b, max a b)) else .agg #[.int .i64 0, .bool false]) = stV z ∧ decide ((min a b, max a b) ∈ A) = ok) := HX.out
  generalize min a b = u at HXA ⊢
  generalize max a b = v at HXA ⊢
  clear hb1 HX
  go_wp2_with fail
  have X2 : Hid (Ext w (w1.alloc (.cells #[.int .i64 u, .int .i64 v] 87))) := X1.out.trans (Ext.alloc _ _)
  have KG : Hid (∀ W, Ext (w1.alloc (.cells #[.int .i64 u, .int .i64 v] 87)) W → GRd W G w1.heap.size u v (u, v) (stV z) ok) := fun W hW => (H.out.ext X2.out).read (Blk.new w1 _ _) HXA.out.1 HXA.out.2.1 HXA.out.2.2 hW
  generalize w1.heap.size = B at KG ⊢
  generalize w1.alloc (.cells #[.int .i64 u, .int .i64 v] 87) = w2 at X2 KG ⊢
  unfold stV at KG
  clear X1 HXA
  go_region_held3 (fun W => Ext w2 W ∧ GRd W G B u v (u, v) (.agg #[.int .i64 z.lv, .bool z.tr]) ok ∧ W.cell? ⟨G.gb, 1, none⟩ = some (.map (some G.eb)) ∧ W.cell? ⟨B, 0, none⟩ = some (.int .i64 u) ∧ W.cell? ⟨B, 1, none⟩ = some (.int .i64 v) ∧ (Instr.lookup 81 (.map (some G.eb)) (.agg #[.int .i64 u, .int .i64 v]) true).run Tryz.prog W = .ok (.tuple #[.agg #[.int .i64 z.lv, .bool z.tr], .bool ok]) W)
    ((refine (fun hE => ⟨hE, KG.out _ hE, (KG.out _ hE).c1, (KG.out _ hE).y0, (KG.out _ hE).y1, (KG.out _ hE).lk⟩ : Ext w2 _ → _) ?_; first | assumption | exact fst_ (by assumption) | exact Ext.refl _ | exact Ext.trans (by assumption) (Ext.alloc _ _) | exact Ext.drew _ | exact (Ext.alloc _ _).trans (Ext.drew _) | exact Ext.set_ (Ext.set_ (by assumption) (Nat.le_refl _) _) (Nat.le_refl _) _ | exact Ext.trans (fst_ (by assumption)) (by assumption) | (trace_state; fail)))
    (fail)
  all_goals
    rename_i hHeld
    have X3 : Hid (Ext w (w2.alloc (Obj.cells #[.int .i64 z.lv, .bool z.tr] 90)).drew) := X2.out.trans (fst_ hHeld)
    have R3 : Hid (GRd (w2.alloc (Obj.cells #[.int .i64 z.lv, .bool z.tr] 90)).drew G B u v (u, v) (.agg #[.int .i64 z.lv, .bool z.tr]) ok) := hHeld.2.1
    clear hHeld KG X2
    generalize (w2.alloc (Obj.cells #[.int .i64 z.lv, .bool z.tr] 90)).drew = w3 at X3 R3 ⊢
    generalize w2.heap.size = B2
    have N3 := Lib.hid (HN.out w3 X3.out)
    have L3 : Hid (∀ ty, (Builtin.len_ #[81] ty #[.map (some G.eb)]).run Tryz.prog w3 = .ok (.int .i64 A.length) w3) := HL.out w3 X3.out
    clear HN HL H
    rcases hkk.out with ⟨hr, rfl⟩ | ⟨⟨ha', hb'⟩, rfl, rfl⟩ | ⟨⟨ha', hb'⟩, hne, rfl, rfl⟩ | ⟨⟨ha', hb'⟩, hne, rfl, hl, rfl⟩
    · by_cases ha1 : 0 ≤ a ∧ a < n
      · have hb1 : ¬ (0 ≤ b ∧ b < n) := by omega
        have n1 := Lib.hid (N3.out a true (by simp [ha1]))
        have n2 := Lib.hid (N3.out b false (by simp only [hb1, decide_false]))
        clear N3 L3 hr hkk HK ha hb ha1 hb1 R3
        go_wp2_with fail
        refine n1.out.mono ?_
        rintro e w' ⟨rfl, rfl⟩
        go_wp2_with fail
        refine n2.out.mono ?_
        rintro e w' ⟨rfl, rfl⟩
        go_wp2
        go_ret
        exact ⟨rfl, X3.out⟩
      · have n1 := Lib.hid (N3.out a false (by simp only [ha1, decide_false]))
        clear N3 L3 hr hkk HK ha hb ha1 R3
        go_wp2_with fail
        refine n1.out.mono ?_
        rintro e w' ⟨rfl, rfl⟩
        go_wp2
        go_ret
        exact ⟨rfl, X3.out⟩
    · have n1 := Lib.hid (N3.out a true (by simp [ha']))
      clear N3 L3 hkk HK R3 ha hb ha' hb'
      go_wp2_with fail
      refine n1.out.mono ?_
      rintro e w' ⟨rfl, rfl⟩
      go_wp2_with fail
      refine n1.out.mono ?_
      rintro e w' ⟨rfl, rfl⟩
      go_wp2
      go_ret
      exact ⟨rfl, X3.out⟩
    · have n1 := Lib.hid (N3.out a true (by simp [ha']))
      have n2 := Lib.hid (N3.out b true (by simp [hb']))
      have q : (a == b) = false := by rw [beq_eq_false_iff_ne]; exact hne
      clear N3 L3 hkk HK R3 ha hb ha' hb' hne
      go_wp2_with fail
      refine n1.out.mono ?_
      rintro e w' ⟨rfl, rfl⟩
      go_wp2_with fail
      refine n2.out.mono ?_
      rintro e w' ⟨rfl, rfl⟩
      go_wp2
      go_ret
      exact ⟨rfl, X3.out⟩
    · have n1 := Lib.hid (N3.out a true (by simp [ha']))
      have n2 := Lib.hid (N3.out b true (by simp [hb']))
      have q : (a == b) = false := by rw [beq_eq_false_iff_ne]; exact hne
      have c1 := R3.out.c1
      have l3 := L3.out
      rw [hl] at l3
      clear N3 L3 hkk HK R3 ha hb ha' hb' hne hl
      go_wp2_with fail
      refine n1.out.mono ?_
      rintro e w' ⟨rfl, rfl⟩
      go_wp2_with fail
      refine n2.out.mono ?_
      rintro e w' ⟨rfl, rfl⟩
      go_wp2
      go_ret
      exact ⟨rfl, X3.out⟩
end
end Go.Proofs.YtlcnoihmhaaekaaGreatDoor
namespace Go.Proofs.YtlcnoihmhaaekaaGreatDoor
open Go Go.RowKit SQ TR DF PD
set_option linter.unusedVariables false

section
variable {w w' : World} {G : GrP} {n N N' : Nat} {A : List AK.Ed} {f : AK.Ed → GM.St} {Es : Nat → List AK.Ed}
theorem addFault_0 {a b : Int} (h : addFault n A a b = 0) : (0 ≤ a ∧ a < n) ∧ (0 ≤ b ∧ b < n) ∧ a ≠ b ∧ AK.ek a b ∉ A ∧ A.length ≠ 200 := by
  unfold addFault at h
  split at h
  · simp at h
  · split at h
    · simp at h
    · split at h
      · simp at h
      · split at h
        · simp at h
        · rename_i q1 q2 q3 q4
          exact ⟨by omega, by omega, q2, q3, q4⟩
/-- What has become of the graph and its forest of level 0. -/
theorem GrI.added (h : GrI w G n N A f) {a b : Nat} (ha : a < n) (hb : b < n) (hne : a ≠ b) (hm : AK.ek a b ∉ A) {s : Bool} (hs : s = true ↔ ¬ Cn (adj (GM.lvl f A 0)) a b)
    (hM : GrM w' G n (N + 1) A f (fun j => if j = 0 then (if s then putE (AK.ek a b) (GM.lvl f A 0) else GM.lvl f A 0) else GM.lvl f A j)) (hN : N + 1 < 1000000) (hc : Chg G.S w w') {W : World} (hW : Ext w' W) :
    ∃ W2, (Instr.mapUpdate 81 (.map (some G.eb)) (edV (AK.ek a b)) (.agg #[.int .i64 0, .bool s])).run Tryz.prog W = .ok () W2 ∧ GrI W2 G n (N + 2) (putE (AK.ek a b) A) (GM.updS f (AK.ek a b) ⟨0, s⟩) ∧ GrC w W2 G G := by
  have h60 := h.m.hn
  obtain ⟨W2, hr, hM2, hc2, hsz⟩ := (hM.ext hW).write hN (AK.ek a b) (okE_ek (by omega) (by omega)) ⟨0, s⟩
  obtain ⟨k1, k2, k3⟩ := h.k.add (by have := h.m.pos; omega) ha hb hne hm hs
  rw [if_neg hm] at hM2
  refine ⟨W2, hr, ⟨hM2.congr fun i hi => ?_, k1, h.few, by have := h.nN; omega⟩, GrC.same (((hc.trans (Chg.of_below hW) (fun i hi hs => by have := hc.size; omega)).trans hc2 (fun i _ hi => .inr (.inl hi)))) (fun _ h => h)⟩
  by_cases e : i = 0
  · subst e; rw [if_pos rfl]; exact k2
  · rw [if_neg e]; exact k3 i (by omega)
set_option maxRecDepth 100000 in
set_option maxHeartbeats 2000000 in
theorem gadd_ok (h : GrI w G n N A f) (hN : N + 1 < 1000000) (a b : Nat) (ha : a < n) (hb : b < n) (hne : a ≠ b) (hm : AK.ek a b ∉ A) (hl : A.length ≠ 200) :
    Calls Tryz.prog 13 #[.pointer (some ⟨G.gb, 0, none⟩), .int .i64 a, .int .i64 b] w fun e w' => ∃ s, e = .returned .nilIface ∧ GrI w' G n (N + 2) (putE (AK.ek a b) A) (GM.updS f (AK.ek a b) ⟨0, s⟩) ∧ GrC w w' G G := by
  have h60 := h.m.hn
  have H := Lib.hid h
  have hxx : okE (AK.ek a b) := okE_ek (by omega) (by omega)
  obtain ⟨F, hF⟩ := h.m.get h.m.pos
  have HF : Hid (G.Fs[0]? = some F ∧ okE (AK.ek a b) ∧ AK.ek a b ∉ A) := ⟨hF, hxx, hm⟩
  have HN : Hid (∀ W, Ext w W → ∀ (c : Nat), c < n → Calls Tryz.prog 42 #[.pointer (some ⟨G.gb, 0, none⟩), .int .i64 c] W fun e w' => e = .returned (.bool true) ∧ W = w') := fun W hW c hc => gnode_any (h.m.ext hW) c true (by simp [hc])
  have hq : ((a : Int) == (b : Int)) = false := by rw [beq_eq_false_iff_ne]; omega
  have hpos : (0 : Int) < (G.Fs.length : Int) := by have := h.m.pos; omega
  have hl2 : ((A.length : Int) == 200) = false := by rw [beq_eq_false_iff_ne]; omega
  obtain ⟨F0, hF0⟩ : ∃ F0, F.fb = F0 := ⟨_, rfl⟩
  have HFB := Lib.hid hF0
  clear hxx h hm hF hne hl hF0
  go_enter Tryz.func13, Tryz.ntmps13
  go_wp2_with fail
  refine (of_any _ (a : Int) (b : Int)).mono ?_
  rintro e w1 ⟨rfl, hb1⟩
  have X1 : Hid (Ext w w1) := hb1
  rw [edV_ek]
  have HXA : Hid (AK.ek (a : Int) b = (min (a : Int) b, max (a : Int) b)) := rfl
  generalize min (a : Int) b = u at HXA ⊢
  generalize max (a : Int) b = v at HXA ⊢
  clear hb1
  go_wp2_with fail
  have X2 : Hid (Ext w (w1.alloc (.cells #[.int .i64 u, .int .i64 v] 87))) := X1.out.trans (Ext.alloc _ _)
  have B2 : Hid (Blk (w1.alloc (.cells #[.int .i64 u, .int .i64 v] 87)) w1.heap.size 87 #[.int .i64 u, .int .i64 v] ∧ w.heap.size ≤ w1.heap.size) := ⟨Blk.new w1 _ _, X1.out.size⟩
  generalize w1.heap.size = B at B2 ⊢
  generalize w1.alloc (.cells #[.int .i64 u, .int .i64 v] 87) = w2 at X2 B2 ⊢
  have KG : Hid (∀ W, Ext w2 W → GRd W G B u v (u, v) (.agg #[.int .i64 0, .bool false]) false) := fun W hW => by
    have hm := HF.out.2.2
    rw [HXA.out] at hm
    exact (H.out.m.ext X2.out).read B2.out.1 (by have := HF.out.2.1; rw [HXA.out] at this; exact this) (by rw [if_neg hm]) (by simp [hm]) hW
  clear X1
  go_region_held3 (fun W => Ext w2 W ∧ GRd W G B u v (u, v) (.agg #[.int .i64 0, .bool false]) false ∧ W.cell? ⟨G.gb, 1, none⟩ = some (.map (some G.eb)) ∧ W.cell? ⟨B, 0, none⟩ = some (.int .i64 u) ∧ W.cell? ⟨B, 1, none⟩ = some (.int .i64 v) ∧ (Instr.lookup 81 (.map (some G.eb)) (.agg #[.int .i64 u, .int .i64 v]) true).run Tryz.prog W = .ok (.tuple #[.agg #[.int .i64 0, .bool false], .bool false]) W)
    ((refine (fun hE => ⟨hE, KG.out _ hE, (KG.out _ hE).c1, (KG.out _ hE).y0, (KG.out _ hE).y1, (KG.out _ hE).lk⟩ : Ext w2 _ → _) ?_; first | assumption | exact fst_ (by assumption) | exact Ext.refl _ | exact Ext.trans (by assumption) (Ext.alloc _ _) | exact Ext.drew _ | exact (Ext.alloc _ _).trans (Ext.drew _) | exact Ext.set_ (Ext.set_ (by assumption) (Nat.le_refl _) _) (Nat.le_refl _) _ | exact Ext.trans (fst_ (by assumption)) (by assumption) | (trace_state; fail)))
    (fail)
  all_goals
    rename_i hHeld
    have X3 : Hid (Ext w (w2.alloc (Obj.cells #[.int .i64 0, .bool false] 90)).drew) := X2.out.trans (fst_ hHeld)
    have B3 : Hid (Blk (w2.alloc (Obj.cells #[.int .i64 0, .bool false] 90)).drew B 87 #[.int .i64 u, .int .i64 v]) := B2.out.1.chg (Chg.of_below (fst_ hHeld)) (by have := B2.out.1.lt; omega)
    clear hHeld KG X2
    generalize (w2.alloc (Obj.cells #[.int .i64 0, .bool false] 90)).drew = w3 at X3 B3 ⊢
    generalize w2.heap.size = B9
    have H3 := Lib.hid (H.out.m.ext X3.out)
    have n1 := Lib.hid (HN.out w3 X3.out a ha)
    have n2 := Lib.hid (HN.out w3 X3.out b hb)
    have c1 : w3.cell? ⟨G.gb, 1, none⟩ = some (.map (some G.eb)) := H3.out.blk.cell 1
    have c2 : w3.cell? ⟨G.gb, 2, none⟩ = some (.slice (some ⟨G.ob, 0, none⟩) G.Fs.length G.c) := H3.out.blk.cell 2
    have c3 := H3.out.cellF HF.out.1
    rw [HFB.out] at c3
    have l3 := H3.out.lenE
    go_wp2_with fail
    refine n1.out.mono ?_
    rintro e w' ⟨rfl, rfl⟩
    go_wp2_with fail
    refine n2.out.mono ?_
    rintro e w' ⟨rfl, rfl⟩
    clear HN n1 n2
    have hF3 := H3.out.fo 0 F HF.out.1
    by_cases hc : Cn (adj (GM.lvl f A 0)) a b
    · have TS := tsame_ok hF3 a b ha hb true (by simp [hc])
      rw [HFB.out] at TS
      have TS := Lib.hid TS
      have HC : Hid ((false : Bool) = true ↔ ¬ Cn (adj (GM.lvl f A 0)) a b) := by simp [Hid, hc]
      clear hc hF3
      go_wp2_with fail
      refine TS.out.mono ?_
      rintro e w4 ⟨rfl, hx4⟩
      have H4 : Hid (GrM w4 G n (N + 1) A f (fun j => if j = 0 then (if (false : Bool) then putE (AK.ek (a : Int) b) (GM.lvl f A 0) else GM.lvl f A 0) else GM.lvl f A j)) := ((H3.out.ext hx4).mono (by omega)).congr fun i _ => by by_cases e : i = 0 <;> simp [e]
      have B4 : Hid (Blk w4 B 87 #[.int .i64 u, .int .i64 v]) := B3.out.chg (Chg.of_below hx4) (by have := B3.out.lt; omega)
      have C4 : Hid (Chg G.S w w4) := Chg.new (X3.out.trans hx4) _
      have d1 : w4.cell? ⟨G.gb, 1, none⟩ = some (.map (some G.eb)) := H4.out.blk.cell 1
      have y0 : w4.cell? ⟨B, 0, none⟩ = some (.int .i64 u) := B4.out.cell 0
      have y1 : w4.cell? ⟨B, 1, none⟩ = some (.int .i64 v) := B4.out.cell 1
      obtain ⟨W2, hr, hf, hg⟩ := H.out.added ha hb (fun e => by subst e; simp at hq) HF.out.2.2 HC.out H4.out hN C4.out (Ext.drew w4)
      have HR : Hid (GrI W2 G n (N + 2) (putE (AK.ek (a : Int) b) A) (GM.updS f (AK.ek (a : Int) b) ⟨0, false⟩) ∧ GrC w W2 G G) := ⟨hf, hg⟩
      rw [HXA.out, show edV (u, v) = .agg #[.int .i64 u, .int .i64 v] from rfl] at hr
      clear hx4 hf hg H3 H4 B3 B4 C4 X3 TS HC c1 c2 c3 l3
      go_wp2
      go_still_tail 8, (by kernel_rfl)
      go_wp2
      go_ret
      exact ⟨false, rfl, HR.out⟩
    · have TS := tsame_ok hF3 a b ha hb false (by simp [hc])
      rw [HFB.out] at TS
      have TS := Lib.hid TS
      have HC : Hid (¬ Cn (adj (GM.lvl f A 0)) a b) := hc
      clear hF3
      go_wp2_with fail
      refine TS.out.mono ?_
      rintro e w4 ⟨rfl, hx4⟩
      have H4 := Lib.hid (H3.out.ext hx4)
      have B4 : Hid (Blk w4 B 87 #[.int .i64 u, .int .i64 v]) := B3.out.chg (Chg.of_below hx4) (by have := B3.out.lt; omega)
      have X4 : Hid (Ext w w4) := X3.out.trans hx4
      have d2 : w4.cell? ⟨G.gb, 2, none⟩ = some (.slice (some ⟨G.ob, 0, none⟩) G.Fs.length G.c) := H4.out.blk.cell 2
      have d3 := H4.out.cellF HF.out.1
      have TL := tlink_ok (H4.out.fo 0 F HF.out.1) (by omega) a b ha hb hc
      rw [HFB.out] at d3 TL
      have TL := Lib.hid TL
      clear hx4 H3 B3 X3 TS c1 c2 c3 l3 hc
      go_wp2_with fail
      refine TL.out.mono ?_
      rintro e w5 ⟨rfl, hf5, hc5⟩
      have H5 : Hid (GrM w5 G n (N + 1) A f (fun j => if j = 0 then (if (true : Bool) then putE (AK.ek (a : Int) b) (GM.lvl f A 0) else GM.lvl f A 0) else GM.lvl f A j)) := by
        have := H4.out.turn HF.out.1 hf5 (by omega) hc5
        show GrM w5 G n (N + 1) A f _
        simpa using this
      have B5 : Hid (Blk w5 B 87 #[.int .i64 u, .int .i64 v]) := B4.out.chg hc5 (fun e => by
        have h1 := (H.out.m.fo 0 F HF.out.1).lt.2 _ e
        have := B2.out.2
        omega)
      have C5 : Hid (Chg G.S w w5) := (Chg.new X4.out _).trans hc5 (fun i hi hs => .inr (.inr (.inr ⟨0, F, HF.out.1, hs⟩)))
      have d1 : w5.cell? ⟨G.gb, 1, none⟩ = some (.map (some G.eb)) := H5.out.blk.cell 1
      have y0 : w5.cell? ⟨B, 0, none⟩ = some (.int .i64 u) := B5.out.cell 0
      have y1 : w5.cell? ⟨B, 1, none⟩ = some (.int .i64 v) := B5.out.cell 1
      obtain ⟨W2, hr, hf, hg⟩ := H.out.added ha hb (fun e => by subst e; simp at hq) HF.out.2.2 (s := true) ⟨fun _ => HC.out, fun _ => rfl⟩ H5.out hN C5.out (Ext.drew w5)
      have HR : Hid (GrI W2 G n (N + 2) (putE (AK.ek (a : Int) b) A) (GM.updS f (AK.ek (a : Int) b) ⟨0, true⟩) ∧ GrC w W2 G G) := ⟨hf, hg⟩
      rw [HXA.out, show edV (u, v) = .agg #[.int .i64 u, .int .i64 v] from rfl] at hr
      clear hf hg H5 H4 B4 B5 C5 X4 TL HC d2 d3 hf5 hc5
      go_wp2
      go_still_tail 8, (by kernel_rfl)
      go_wp2
      go_ret
      exact ⟨true, rfl, HR.out⟩
theorem gadd_any (h : GrI w G n N A f) (hN : N + 1 < 1000000) (a b : Int) (ha : -9223372036854775808 ≤ a ∧ a ≤ 9223372036854775807) (hb : -9223372036854775808 ≤ b ∧ b ≤ 9223372036854775807) :
    Calls Tryz.prog 13 #[.pointer (some ⟨G.gb, 0, none⟩), .int .i64 a, .int .i64 b] w (GAddPost w G n N A f a b) := by
  by_cases hk : addFault n A a b = 0
  · obtain ⟨h1, h2, h3, h4, h5⟩ := addFault_0 hk
    obtain ⟨a', rfl⟩ := Int.eq_ofNat_of_zero_le h1.1
    obtain ⟨b', rfl⟩ := Int.eq_ofNat_of_zero_le h2.1
    exact (gadd_ok h hN a' b' (by omega) (by omega) (by omega) h4 h5).mono fun e w' q => .inr ⟨hk, q⟩
  · exact (gadd_bad h a b ha hb rfl hk).mono fun e w' q => .inl ⟨_, rfl, hk, q⟩
end
end Go.Proofs.YtlcnoihmhaaekaaGreatDoor
namespace Go.Proofs.YtlcnoihmhaaekaaGreatDoor
open Go Go.RowKit SQ TR DF PD
set_option linter.unusedVariables false

theorem comp_sz (n : Nat) (E : List AK.Ed) (a : Nat) : (comp n E a).length = GM.sz n (adj E) a := by
  unfold comp GM.sz
  rw [List.length_map]
  generalize (fun u => by classical exact decide (Cn (adj E) a u) : Nat → Bool) = p
  have : ∀ m, ((List.range m).filter p).length = PD.cnt p m := by
    intro m
    induction m with
    | zero => rfl
    | succ m ih =>
      rw [List.range_succ, List.filter_append, List.length_append, ih]
      show _ = PD.cnt p m + if p m = true then 1 else 0
      cases h : p m <;> simp [h]
  exact this n
theorem gcomp_len (n : Nat) (E : List AK.Ed) (a : Nat) : (comp n E a).length ≤ n := by
  unfold comp
  rw [List.length_map]
  exact Nat.le_trans (List.length_filter_le _ _) (by simp)
theorem EdgesPost.use {w w' : World} {E : List AK.Ed} {e : Ending} (h : EdgesPost w E e w') : ∃ A c, e = .returned (.slice A E.length c) ∧ EdsAt w' A E ∧ Ext w w' ∧ E.length ≤ c ∧ ∀ x, A = some x → w.heap.size ≤ x.block := by
  obtain ⟨A, c, rfl, h1, h2, h3⟩ := h
  refine ⟨A, c, rfl, (DRow.eds h1 rfl).1, h2, (DRow.eds h1 rfl).2, fun x hx => ?_⟩
  rcases h1.2 with ⟨h4, _⟩ | ⟨g', c', cur, h4, _⟩
  · simp at h4; rw [h4.1] at hx; cases hx
  · simp only [Value.slice.injEq] at h4
    have h5 := h3 g' (by rw [h4.1]; simp [Value.ownBlock])
    rw [h4.1] at hx
    injection hx with hx
    subst hx
    exact h5
theorem MemPost.use {w w' : World} {xs : List Int} {e : Ending} (h : MemPost w xs e w') : ∃ A c, e = .returned (.tuple #[.slice A xs.length c, .nilIface]) ∧ IntsAt w' A xs ∧ Ext w w' ∧ xs.length ≤ c := by
  obtain ⟨A, c, rfl, h1, h2, h3⟩ := h
  refine ⟨A, c, rfl, (IntsAt.of_own h1).1, h2, ?_⟩
  rcases Nat.eq_zero_or_pos xs.length with h0 | h0
  · omega
  · obtain ⟨g, cap, hv, hc, _⟩ := own_form h1 h0
    simp only [Value.slice.injEq] at hv
    omega
/-- A map in which nodes are marked. -/
def InAt (w : World) (mb : Nat) (S : List Int) : Prop := ∃ N s m, N ≤ S.length ∧ VM kI w mb N s m ∧ ∀ z, kI.ok z → m z = if z ∈ S then some (.int .i64 1) else none
section
variable {w w' w5 W : World} {mb : Nat} {S : List Int}
theorem InAt.made (w : World) : InAt (w.alloc (.map #[] 0)) w.heap.size [] := ⟨0, 0, _, Nat.le_refl _, VM.made kI w, fun z _ => by simp⟩
theorem InAt.lt (h : InAt w mb S) : mb < w.heap.size := by obtain ⟨N, s, m, h0, h1, h2⟩ := h; exact h1.lt
theorem InAt.chg {T : Nat → Prop} (h : InAt w mb S) (hc : Chg T w w') (hn : ¬ T mb) : InAt w' mb S := by
  obtain ⟨N, s, m, h0, h1, h2⟩ := h; exact ⟨N, s, m, h0, h1.chg hc hn, h2⟩
theorem InAt.ext (h : InAt w mb S) (hx : Ext w w') : InAt w' mb S := h.chg (Chg.of_below hx) (by have := h.lt; omega)
theorem zeroIntG (w : World) : (zeroValue 3).run Tryz.prog w = .ok (.int .i64 0) w := by kernel_rfl
theorem InAt.look (h : InAt w mb S) (z : Int) (hz : kI.ok z) {v : Int} (hv : v = if z ∈ S then 1 else 0) : (Instr.lookup 140 (.map (some mb)) (.int .i64 z) false).run Tryz.prog w = .ok (.int .i64 v) w := by
  obtain ⟨N, s, m, h0, h1, h2⟩ := h
  have : (Instr.lookup 140 (.map (some mb)) (.int .i64 z) false).run Tryz.prog w = _ := h1.look Tryz.underlying140 (zeroIntG _) z hz
  rw [this, h2 z hz, hv]
  by_cases q : z ∈ S
  · rw [if_pos q, if_pos q]; rfl
  · rw [if_neg q, if_neg q]; rfl
theorem InAt.put (h : InAt w mb S) (hl : S.length < 1000000) (z : Int) (hz : kI.ok z) : ∃ w', (Instr.mapUpdate 140 (.map (some mb)) (.int .i64 z) (.int .i64 1)).run Tryz.prog w = .ok () w' ∧ InAt w' mb (S ++ [z]) ∧ Chg (fun k => k = mb) w w' := by
  obtain ⟨N, s, m, h0, h1, h2⟩ := h
  obtain ⟨w2, hr, hv, hc, hs⟩ := h1.put Tryz.underlying140 (by omega) z hz (.int .i64 1)
  refine ⟨w2, hr, ⟨N + 1, _, _, by simp; omega, hv, fun y hy => ?_⟩, hc⟩
  unfold updV
  by_cases e : y = z
  · subst e; simp
  · rw [if_neg e, h2 y hy]; simp [e]
theorem okI_of {z : Int} (h : -1000 ≤ z ∧ z ≤ 1000000) : kI.ok z := WalkArith.wf_i64 (by omega)
end
section
variable {w w' w5 W : World} {G G' : GrP} {n N N' i : Nat} {A L : List AK.Ed} {f f' fk : AK.Ed → GM.St} {Es : Nat → List AK.Ed} {F : FoP} {x : AK.Ed} {S : Nat → Bool}
theorem GrM.congrF (h : GrM w G n N A f Es) (hf : ∀ x ∈ A, f' x = f x) : GrM w G n N A f' Es := by
  obtain ⟨me, m1, m2⟩ := h.edges
  refine ⟨h.blk, h.hn, h.row, h.pos, h.fo, ⟨me, m1, fun x hx => ?_⟩, h.ap, h.ap2⟩
  rw [m2 x hx]
  by_cases q : x ∈ A
  · rw [if_pos q, if_pos q, hf x q]
  · rw [if_neg q, if_neg q]
/-- An edge of the lesser tree goes up. -/
theorem GrM.raise (h : GrM w G n N A (GM.upL f i S L) (GM.lvl (GM.upL f i S L) A)) (hup : A.Pairwise ltE) (hL : ∀ y ∈ L, (f y).tr = true) (hxA : x ∈ A) (hx : okE x) (htr : (f x).tr = true) (hxL : x ∉ L) (hxS : (f x).lv = i ∧ S x.1.toNat = true ∧ S x.2.toNat = true)
    (hF : G.Fs[i + 1]? = some F) (hf : FoAt w5 F n (N + 1) (putE x (GM.lvl (GM.upL f i S L) A (i + 1)))) (hc : Chg F.S w w5) (hW : Ext w5 W) (hN : N + 1 < 1000000) :
    ∃ W2, (Instr.mapUpdate 81 (.map (some G.eb)) (edV x) (.agg #[.int .i64 ((i : Int) + 1), .bool true])).run Tryz.prog W = .ok () W2 ∧ GrM W2 G n (N + 2) A (GM.upL f i S (L ++ [x])) (GM.lvl (GM.upL f i S (L ++ [x])) A) ∧ Chg G.S w W2 := by
  have h5 := h.turn hF hf (by omega) hc
  obtain ⟨W2, hr, hM2, hc2, hsz⟩ := (h5.ext hW).write hN x hx ⟨i + 1, true⟩
  rw [if_pos hxA, ← GM.upL_yes hxS] at hM2
  have hc1 : Chg G.S w w5 := hc.mono fun k _ hk => .inr (.inr (.inr ⟨_, F, hF, hk⟩))
  have hL' : ∀ y ∈ L ++ [x], (f y).tr = true := fun y hy => by
    rcases List.mem_append.1 hy with q | q
    · exact hL y q
    · rw [List.mem_singleton.1 q]; exact htr
  refine ⟨W2, hr, hM2.congr fun j hj => ?_, (hc1.trans (Chg.of_below hW) (fun i hi hs => by have := hc1.size; omega)).trans hc2 (fun i _ hi => .inr (.inl hi))⟩
  by_cases e : j = i + 1
  · subst e; rw [if_pos rfl]; exact GM.lvl_upL_snoc hup hL hxA htr hxL hxS
  · rw [if_neg e, GM.lvl_upL_ne hL' e, GM.lvl_upL_ne hL e]
theorem GrM.write' (h : GrM w G n N A fk Es) (hxA : x ∈ A) (hx : okE x) (hN : N < 1000000) (hW : Ext w W) (s : GM.St) :
    ∃ W2, (Instr.mapUpdate 81 (.map (some G.eb)) (edV x) (stV s)).run Tryz.prog W = .ok () W2 ∧ GrM W2 G n (N + 1) A (GM.updS fk x s) Es ∧ Chg G.S w W2 ∧ Chg G.S W W2 := by
  obtain ⟨W2, hr, hM2, hc2, hsz⟩ := (h.ext hW).write hN x hx s
  rw [if_pos hxA] at hM2
  have hc1 : Chg G.S w W := Chg.new hW _
  exact ⟨W2, hr, hM2, hc1.trans hc2 (fun i _ hi => .inr (.inl hi)), hc2.mono (fun i _ hi => .inr (.inl hi))⟩
end
/-- One of two, and the other. -/
def Pick2 (a b c d : Nat) : Prop := (c = a ∧ d = b) ∨ (c = b ∧ d = a)
theorem gints_at {w : World} {A : Option Addr} {xs : List Int} {i : Nat} (h : IntsAt w A xs) (hi : i < xs.length) : ∃ b off, A = some ⟨b, off, none⟩ ∧ w.cell? ⟨b, off + i, none⟩ = some (.int .i64 (xs.getD i 0)) := by
  rcases h with h | ⟨b, off, rfl, hb, hc⟩
  · subst h; simp at hi
  · exact ⟨b, off, rfl, hc i _ (by rw [List.getElem?_eq_getElem hi]; simp [List.getD, List.getElem?_eq_getElem hi])⟩
theorem geds_at {w : World} {A : Option Addr} {E : List AK.Ed} {i : Nat} (h : EdsAt w A E) (hi : i < E.length) : ∃ b off x, A = some ⟨b, off, none⟩ ∧ E[i]? = some x ∧ w.cell? ⟨b, off + i * 2, none⟩ = some (.int .i64 x.1) ∧ w.cell? ⟨b, off + i * 2 + 1, none⟩ = some (.int .i64 x.2) := by
  rcases h with h | ⟨b, off, rfl, hb, hc⟩
  · subst h; simp at hi
  · have := List.getElem?_eq_getElem hi
    exact ⟨b, off, _, rfl, this, (hc i _ this).1, (hc i _ this).2⟩
theorem Ext.chg_new {w w1 w2 : World} {T : Nat → Prop} (h : Ext w w1) (hc : Chg T w1 w2) (hT : ∀ k, T k → w.heap.size ≤ k) : Ext w w2 :=
  ((Chg.of_below h).trans hc (fun i _ hi => hT i hi)).below (Nat.le_refl _) (fun _ _ h => h)
/-- The nodes marked, as a test. -/
def inS (X : List Int) (v : Nat) : Bool := decide ((v : Int) ∈ X)
theorem side_of {n i a b c d : Nat} {A : List AK.Ed} {f : AK.Ed → GM.St} (hp : Pick2 a b c d) (ha : a < n) (hb : b < n) : GM.Side n (adj (GM.lvl f A i)) a b (inS (comp n (GM.lvl f A i) c)) := by
  refine ⟨c, hp.imp (·.1) (·.1), ?_, fun x hx => ?_⟩
  · rcases hp with ⟨rfl, _⟩ | ⟨rfl, _⟩ <;> assumption
  · unfold inS
    rw [decide_eq_true_eq, comp_mem]
    exact ⟨fun ⟨u, h1, h2, h3⟩ => by have : x = u := by omega
                                     subst this; exact h2, fun h => ⟨x, hx, h, rfl⟩⟩
/-- What is known when the lesser tree begins to go up. -/
structure MdC (n t : Nat) (A : List AK.Ed) (f : AK.Ed → GM.St) (a b i : Nat) (X : List Int) : Prop where
  bok : GM.BOk n t A f a b i
  side : GM.Side n (adj (GM.lvl f A i)) a b (inS X)
  half : ∃ c, (c = a ∨ c = b) ∧ c < n ∧ (∀ x, x < n → (inS X x = true ↔ Cn (adj (GM.lvl f A i)) c x)) ∧ GM.sz n (adj (GM.lvl f A i)) c * 2 ≤ GM.sz n (Ad (adj (GM.lvl f A i)) a b) c
theorem mdC_of {n t i a b c d : Nat} {A : List AK.Ed} {f : AK.Ed → GM.St} (h : GM.BOk n t A f a b i) (hp : Pick2 a b c d) (ha : a < n) (hb : b < n) (hle : (comp n (GM.lvl f A i) c).length ≤ (comp n (GM.lvl f A i) d).length) : MdC n t A f a b i (comp n (GM.lvl f A i) c) := by
  have hs := side_of (f := f) (A := A) (i := i) hp ha hb
  refine ⟨h, hs, c, hp.imp (·.1) (·.1), ?_, fun x hx => ?_, ?_⟩
  · rcases hp with ⟨rfl, _⟩ | ⟨rfl, _⟩ <;> assumption
  · unfold inS
    rw [decide_eq_true_eq, comp_mem]
    exact ⟨fun ⟨u, h1, h2, h3⟩ => by have : x = u := by omega
                                     subst this; exact h2, fun h => ⟨x, hx, h, rfl⟩⟩
  · rw [comp_sz, comp_sz] at hle
    exact GM.half h hp hle
theorem GM_base_mono {n t t' : Nat} {A : List AK.Ed} {f : AK.Ed → GM.St} (h : GM.Base n t A f) (ht : t ≤ t') : GM.Base n t' A f := ⟨h.ok, h.up, h.fs, fun x hx => Nat.lt_of_lt_of_le (h.top x hx) ht⟩
theorem MdC.mono {n t t' i a b : Nat} {A : List AK.Ed} {f : AK.Ed → GM.St} {X : List Int} (h : MdC n t A f a b i X) (ht : t ≤ t') : MdC n t' A f a b i X :=
  ⟨⟨GM_base_mono h.bok.toBase ht, h.bok.na, h.bok.hi, h.bok.lo, h.bok.smh, h.bok.sml⟩, h.side, h.half⟩
/-- The loop over the tree's edges. -/
def Up1 (w5 wr : World) (G' : GrP) (n N : Nat) (A : List AK.Ed) (f : AK.Ed → GM.St) (i : Nat) (X : List Int) (L : List AK.Ed) : Prop := GrM wr G' n N A (GM.upL f i (inS X) L) (GM.lvl (GM.upL f i (inS X) L) A) ∧ Chg G'.S w5 wr
theorem Up1.start {w5 : World} {G' : GrP} {n N i : Nat} {A T : List AK.Ed} {f : AK.Ed → GM.St} {X : List Int} (h : GrM w5 G' n N A f (GM.lvl f A)) : Up1 w5 w5 G' n N A f i X (T.take 0) := by
  unfold Up1
  rw [List.take_zero, GM.upL_nil]
  exact ⟨h, Chg.refl _ _⟩
theorem inS_of {X : List Int} {v : Nat} : inS X v = true ↔ (v : Int) ∈ X := by unfold inS; rw [decide_eq_true_eq]
theorem Up1.no {w5 wr w7 : World} {G' : GrP} {n N N' i : Nat} {A L : List AK.Ed} {f : AK.Ed → GM.St} {X : List Int} {x : AK.Ed} (h : Up1 w5 wr G' n N A f i X L) (hx : Ext wr w7) (hN : N ≤ N') (hno : ¬ ((f x).lv = i ∧ inS X x.1.toNat = true ∧ inS X x.2.toNat = true)) : Up1 w5 w7 G' n N' A f i X (L ++ [x]) := by
  unfold Up1
  rw [GM.upL_no hno]
  exact ⟨(h.1.ext hx).mono hN, h.2.trans (Chg.of_below hx) fun i hi hs => by have := h.2.size; omega⟩
/-- The loop over the other edges. -/
def Ri1 (w5 wr : World) (G' : GrP) (n N : Nat) (A : List AK.Ed) (f1 : AK.Ed → GM.St) (a b i : Nat) (X : List Int) (k : Nat) : Prop := ∃ fk, GM.M2 n G'.Fs.length A f1 a b i (inS X) k fk ∧ GrM wr G' n N A fk (GM.lvl fk A) ∧ Chg G'.S w5 wr
theorem Chg.step {S : Nat → Prop} {w5 wr w7 : World} (h : Chg S w5 wr) (hc : Chg S wr w7) : Chg S w5 w7 := h.trans hc fun _ _ h => h
theorem Chg.stepE {S : Nat → Prop} {w5 wr w7 : World} (h : Chg S w5 wr) (hx : Ext wr w7) : Chg S w5 w7 := h.trans (Chg.of_below hx) fun i hi hs => by have := h.size; omega
theorem runFieldS (l : Int) (t : Bool) (w : World) : (Instr.field 90 (.agg #[.int .i64 l, .bool t]) 0).run Tryz.prog w = .ok (.int .i64 l) w := by kernel_rfl
theorem Up1.done {w5 wr : World} {G' : GrP} {n N i : Nat} {A : List AK.Ed} {f : AK.Ed → GM.St} {X : List Int} (h : Up1 w5 wr G' n N A f i X (GM.lvl f A 0)) : GrM wr G' n N A (GM.upT f A i (inS X)) (GM.lvl (GM.upT f A i (inS X)) A) ∧ Chg G'.S w5 wr := by
  have hf : ∀ x ∈ A, GM.upT f A i (inS X) x = GM.upL f i (inS X) (GM.lvl f A 0) x := fun x hx => (GM.upL_all x hx).symm
  exact ⟨(h.1.congrF hf).congr fun j _ => GM.lvl_congr hf j, h.2⟩
theorem Ri1.start {w : World} {G' : GrP} {n N i a b : Nat} {A : List AK.Ed} {f1 : AK.Ed → GM.St} {X : List Int} (h : GrM w G' n N A f1 (GM.lvl f1 A)) (hb : GM.BOk n G'.Fs.length A f1 a b i) : Ri1 w w G' n N A f1 a b i X 0 := ⟨f1, .start hb, h, Chg.refl _ _⟩
/-- What is known of the edge in question. -/
structure Ri2 (w5 wr : World) (G' : GrP) (n N : Nat) (A : List AK.Ed) (f1 fk : AK.Ed → GM.St) (a b i : Nat) (X : List Int) (k u v : Nat) : Prop where
  m : GM.M2 n G'.Fs.length A f1 a b i (inS X) k fk
  g : GrM wr G' n N A fk (GM.lvl fk A)
  c : Chg G'.S w5 wr
  x : A[k]? = some ((u : Int), (v : Int))
  ek : AK.ek u v = ((u : Int), (v : Int))
  lt : u < v ∧ v < n
theorem Ri1.at_ {w5 wr : World} {G' : GrP} {n N i a b k : Nat} {A : List AK.Ed} {f1 : AK.Ed → GM.St} {X : List Int} (h : Ri1 w5 wr G' n N A f1 a b i X k) {x : AK.Ed} (hx : A[k]? = some x) : ∃ (fk : AK.Ed → GM.St) (u v : Nat), x = ((u : Int), (v : Int)) ∧ Ri2 w5 wr G' n N A f1 fk a b i X k u v := by
  obtain ⟨fk, h1, h2, h3⟩ := h
  obtain ⟨u, v, e1, e2, rfl, e4⟩ := GM.ek_form (h1.ok.ok _ (List.mem_of_getElem? hx))
  exact ⟨fk, u, v, rfl, h1, h2, h3, hx, e4, e1, e2⟩
section
variable {w5 wr w7 : World} {G' : GrP} {n N N' i a b k u v : Nat} {A : List AK.Ed} {f1 fk : AK.Ed → GM.St} {X : List Int}
theorem Ri2.mem (h : Ri2 w5 wr G' n N A f1 fk a b i X k u v) : ((u : Int), (v : Int)) ∈ A := List.mem_of_getElem? h.x
theorem Ri2.ok (h : Ri2 w5 wr G' n N A f1 fk a b i X k u v) : okE ((u : Int), (v : Int)) := by
  have := h.g.hn; have := h.lt
  exact okE_of (by simp only; omega) (by simp only; omega)
theorem Ri2.skip (h : Ri2 w5 wr G' n N A f1 fk a b i X k u v) (hx : Ext wr w7) (hN : N ≤ N') (hs : (fk ((u : Int), (v : Int))).tr = true ∨ (fk ((u : Int), (v : Int))).lv ≠ i ∨ (inS X u = false ∧ inS X v = false)) : Ri1 w5 w7 G' n N' A f1 a b i X (k + 1) :=
  ⟨fk, h.m.skip h.x (by simpa using hs), (h.g.ext hx).mono hN, h.c.stepE hx⟩
theorem Ri2.rise (h : Ri2 w5 wr G' n N A f1 fk a b i X k u v) (hx : Ext wr w7) (hN : N < 1000000) (ht : (fk ((u : Int), (v : Int))).tr = false) (hl : (fk ((u : Int), (v : Int))).lv = i) (hs : inS X u = true ∧ inS X v = true)
    (hin : ∀ x y, x < n → y < n → inS X x = true → inS X y = true → Cn (adj (GM.lvl f1 A (i + 1))) x y) (hti : i + 1 < G'.Fs.length) :
    ∃ W2, (Instr.mapUpdate 81 (.map (some G'.eb)) (.agg #[.int .i64 u, .int .i64 v]) (.agg #[.int .i64 ((i : Int) + 1), .bool false])).run Tryz.prog w7 = .ok () W2 ∧ Ri1 w5 W2 G' n (N + 1) A f1 a b i X (k + 1) := by
  obtain ⟨W2, hr, hM, hc, hc'⟩ := h.g.write' h.mem h.ok hN hx ⟨i + 1, false⟩
  exact ⟨W2, hr, _, h.m.rise h.x ht hl (by simpa using hs) hin hti, hM.congr fun j _ => GM.lvl_nt ht rfl j, h.c.step hc⟩
/-- An edge is found: it is linked level by level. -/
structure Ri3 (w5 wr : World) (G' : GrP) (n N : Nat) (A : List AK.Ed) (f1 fk f2 : AK.Ed → GM.St) (i u v j : Nat) : Prop where
  g : GrM wr G' n N A f2 (fun q => if q < j then putE (AK.ek u v) (GM.lvl fk A q) else GM.lvl fk A q)
  c : Chg G'.S w5 wr
  k : GM.GOk n G'.Fs.length A f2
  lo : ∀ j, j ≤ i → ¬ Cn (adj (GM.lvl fk A j)) u v ∧ GM.lvl f2 A j = putE (AK.ek u v) (GM.lvl fk A j)
  hi : ∀ j, i < j → GM.lvl f2 A j = GM.lvl fk A j
  up : ∀ y ∈ A, (f1 y).lv ≤ (f2 y).lv
theorem Ri2.found (h : Ri2 w5 wr G' n N A f1 fk a b i X k u v) (hx : Ext wr w7) (hN : N < 1000000) (ht : (fk ((u : Int), (v : Int))).tr = false) (hl : (fk ((u : Int), (v : Int))).lv = i) (hS : GM.Side n (adj (GM.lvl f1 A i)) a b (inS X)) (hs : ¬ (inS X u = true ↔ inS X v = true)) :
    ∃ W2 f2, (Instr.mapUpdate 81 (.map (some G'.eb)) (.agg #[.int .i64 u, .int .i64 v]) (.agg #[.int .i64 i, .bool true])).run Tryz.prog w7 = .ok () W2 ∧ Ri3 w5 W2 G' n (N + 1) A f1 fk f2 i u v 0 ∧ Chg G'.S w7 W2 := by
  obtain ⟨W2, hr, hM, hc, hc'⟩ := h.g.write' h.mem h.ok hN hx ⟨i, true⟩
  obtain ⟨u', v', _, _, e1, e2, k1, k2, k3, k4⟩ := h.m.found hS h.x ht hl (by simpa using hs)
  rw [Prod.mk.injEq] at e1
  have hu : u' = u := by omega
  have hv : v' = v := by omega
  subst hu hv
  refine ⟨W2, _, hr, ⟨hM.congr fun j _ => by rw [if_neg (Nat.not_lt_zero _)], h.c.step hc, k1, fun j hj => ?_, k3, k4⟩, hc'⟩
  rw [h.ek]
  exact k2 j hj
theorem Ri3.next {j : Nat} {f2 : AK.Ed → GM.St} {F : FoP} (h : Ri3 w5 wr G' n N A f1 fk f2 i u v j) (hF : G'.Fs[j]? = some F) (hx : Ext wr w7) {w8 : World} (hf : FoAt w8 F n (N + 1) (putE (AK.ek u v) (GM.lvl fk A j))) (hc : Chg F.S w7 w8) : Ri3 w5 w8 G' n (N + 1) A f1 fk f2 i u v (j + 1) := by
  refine ⟨((h.g.ext hx).turn hF hf (by omega) hc).congr fun q _ => ?_, (h.c.stepE hx).step (hc.mono fun k _ hk => .inr (.inr (.inr ⟨_, F, hF, hk⟩))), h.k, h.lo, h.hi, h.up⟩
  by_cases e : q = j
  · subst e; simp
  · rw [if_neg e]
    by_cases e2 : q < j
    · rw [if_pos e2, if_pos (by omega)]
    · rw [if_neg e2, if_neg (by omega)]
theorem Ri3.end_ {f2 : AK.Ed → GM.St} (h : Ri3 w5 wr G' n N A f1 fk f2 i u v (i + 1)) (h6 : G'.Fs.length ≤ 6) (hnN : n ≤ N) : GrI wr G' n N A f2 := by
  refine ⟨h.g.congr fun q _ => ?_, h.k, h6, hnN⟩
  by_cases e : q < i + 1
  · rw [if_pos e]; exact (h.lo q (by omega)).2
  · rw [if_neg e]; exact h.hi q (by omega)
end
/-- What mend has done. -/
def MendPost (w : World) (G : GrP) (n N : Nat) (A : List AK.Ed) (f : AK.Ed → GM.St) (a b i : Nat) (e : Ending) (w' : World) : Prop :=
  ∃ (G' : GrP) (f' : AK.Ed → GM.St), GrC w w' G G' ∧ (∀ x ∈ A, (f x).lv ≤ (f' x).lv) ∧ G'.Fs.length ≤ 6 ∧ G.Fs.length ≤ G'.Fs.length ∧
    ((e = .returned (.tuple #[.bool true, .nilIface]) ∧ GrI w' G' n (N + 700) A f') ∨
     (e = .returned (.tuple #[.bool false, .nilIface]) ∧ GrM w' G' n (N + 700) A f' (GM.lvl f' A) ∧ GM.BOk n G'.Fs.length A f' a b i ∧ (∀ u v, adj A u v → (f' (AK.ek u v)).lv = i → Cn (adj (GM.lvl f' A i)) u v) ∧ ∀ j, j ≤ i → GM.Sm n (adj (GM.lvl f' A j)) j))
end Go.Proofs.YtlcnoihmhaaekaaGreatDoor
