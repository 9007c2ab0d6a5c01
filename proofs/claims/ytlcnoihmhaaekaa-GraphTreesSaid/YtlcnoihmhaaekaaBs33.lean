/-
  Walk of graph's Add. Condition: the graph lies in memory as 'GrI' says.
  Walk of graph's Add where all is right. Condition: the graph lies in memory as 'GrI' says.
-/
import Derived.Test.YtlcnoihmhaaekaaBs31
import Derived.Test.YtlcnoihmhaaekaaBs32
namespace Go.Proofs.Ytlcnoihmhaaekaa
open Go Go.RowKit SQ TR DF PD
set_option linter.unusedVariables false

/-- A graph of which all holds. -/
structure GrI (w : World) (G : GrP) (n N : Nat) (A : List AK.Ed) (f : AK.Ed → GM.St) : Prop where
  m : GrM w G n N A f (GM.lvl f A)
  k : GM.GOk n G.Fs.length A f
  few : G.Fs.length ≤ 6
  nN : n ≤ N
section
variable {w w' : World} {G : GrP} {n N N' : Nat} {A : List AK.Ed} {f : AK.Ed → GM.St} {Es : Nat → List AK.Ed}
theorem GrI.ext (h : GrI w G n N A f) (hx : Ext w w') : GrI w' G n N A f := ⟨h.m.ext hx, h.k, h.few, h.nN⟩
theorem GrI.mono (h : GrI w G n N A f) (hN : N ≤ N') : GrI w G n N' A f := ⟨h.m.mono hN, h.k, h.few, Nat.le_trans h.nN hN⟩
theorem GrM.lenE (h : GrM w G n N A f Es) (ty : TypeId) : (Builtin.len_ #[82] ty #[.map (some G.eb)]).run Try.prog w = .ok (.int .i64 A.length) w := by
  obtain ⟨me, m1, m2⟩ := h.edges
  obtain ⟨D, h1, h2, h3⟩ := m1
  have := h1.len Try.underlying82 ty
  rw [h2] at this
  exact this
/-- What is read of a graph and of a box with an edge. -/
structure GRd (W : World) (G : GrP) (B : Nat) (u v : Int) (x : AK.Ed) (z : Value) (ok : Bool) : Prop where
  c1 : W.cell? ⟨G.gb, 1, none⟩ = some (.map (some G.eb))
  y0 : W.cell? ⟨B, 0, none⟩ = some (.int .i64 u)
  y1 : W.cell? ⟨B, 1, none⟩ = some (.int .i64 v)
  lk : (Instr.lookup 82 (.map (some G.eb)) (.agg #[.int .i64 u, .int .i64 v]) true).run Try.prog W = .ok (.tuple #[z, .bool ok]) W
theorem GrM.read (h : GrM w G n N A f Es) {B : Nat} {u v : Int} (hB : Blk w B 38 #[.int .i64 u, .int .i64 v]) (hx : okE (u, v)) {z : Value} {ok : Bool} (hz : (if (u, v) ∈ A then stV (f (u, v)) else .agg #[.int .i64 0, .bool false]) = z) (hk : decide ((u, v) ∈ A) = ok)
    {W : World} (hW : Ext w W) : GRd W G B u v (u, v) z ok := by
  have hlt := h.blk.lt
  have h' := h.ext hW
  have hB' : Blk W B 38 #[.int .i64 u, .int .i64 v] := hB.chg (Chg.of_below hW) (by have := hB.lt; omega)
  exact ⟨h'.blk.cell 1, hB'.cell 0, hB'.cell 1, h'.look_ok (u, v) hx hz hk⟩
end
section
variable {w : World} {G : GrP} {n N : Nat} {A : List AK.Ed} {f : AK.Ed → GM.St} {Es : Nat → List AK.Ed}
theorem edV_ek (a b : Int) : edV (AK.ek a b) = .agg #[.int .i64 (min a b), .int .i64 (max a b)] := rfl
def addFault (n : Nat) (A : List AK.Ed) (a b : Int) : Nat := if ¬ (0 ≤ a ∧ a < n) ∨ ¬ (0 ≤ b ∧ b < n) then 1 else if a = b then 2 else if AK.ek a b ∈ A then 6 else if A.length = 200 then 3 else 0
def GAddPost (w : World) (G : GrP) (n N : Nat) (A : List AK.Ed) (f : AK.Ed → GM.St) (a b : Int) (e : Ending) (w' : World) : Prop :=
  (∃ k, addFault n A a b = k ∧ k ≠ 0 ∧ e = .returned (errV k) ∧ Ext w w') ∨ (addFault n A a b = 0 ∧ ∃ s, e = .returned .nilIface ∧ GrI w' G n (N + 2) (putE (AK.ek a b) A) (GM.updS f (AK.ek a b) ⟨0, s⟩) ∧ GrC w w' G G)
theorem GRd.lkE {W : World} {B : Nat} {u v : Int} {z : Value} {ok : Bool} (h : GRd W G B u v (u, v) z ok) : GRd W G B u v (u, v) z ok := h
set_option maxRecDepth 100000 in
set_option maxHeartbeats 2000000 in
theorem gadd_bad (h : GrI w G n N A f) (a b : Int) (ha : -9223372036854775808 ≤ a ∧ a ≤ 9223372036854775807) (hb : -9223372036854775808 ≤ b ∧ b ≤ 9223372036854775807) {k : Nat} (hk : addFault n A a b = k) (hk0 : k ≠ 0) :
    Calls Try.prog 17 #[.pointer (some ⟨G.gb, 0, none⟩), .int .i64 a, .int .i64 b] w fun e w' => e = .returned (errV k) ∧ Ext w w' := by
  have h60 := h.m.hn
  have H := Lib.hid h.m
  have hxx : okE (AK.ek a b) := ⟨WalkArith.wf_i64 (by unfold AK.ek; simp only; omega), WalkArith.wf_i64 (by unfold AK.ek; simp only; omega)⟩
  have HK : Hid (addFault n A a b = k ∧ k ≠ 0) := ⟨hk, hk0⟩
  obtain ⟨z, hz⟩ : ∃ z : GM.St, (if AK.ek a b ∈ A then stV (f (AK.ek a b)) else .agg #[.int .i64 0, .bool false]) = stV z := by
    by_cases q : AK.ek a b ∈ A
    · exact ⟨_, if_pos q⟩
    · exact ⟨⟨0, false⟩, if_neg q⟩
  obtain ⟨ok, hok⟩ : ∃ ok, decide (AK.ek a b ∈ A) = ok := ⟨_, rfl⟩
  have HX : Hid (okE (AK.ek a b) ∧ (if AK.ek a b ∈ A then stV (f (AK.ek a b)) else .agg #[.int .i64 0, .bool false]) = stV z ∧ decide (AK.ek a b ∈ A) = ok) := ⟨hxx, hz, hok⟩
  have hkk : Hid ((¬ (0 ≤ a ∧ a < n) ∨ ¬ (0 ≤ b ∧ b < n)) ∧ k = 1 ∨ ((0 ≤ a ∧ a < n) ∧ (0 ≤ b ∧ b < n)) ∧ a = b ∧ k = 2 ∨ ((0 ≤ a ∧ a < n) ∧ (0 ≤ b ∧ b < n)) ∧ a ≠ b ∧ ok = true ∧ k = 6 ∨ ((0 ≤ a ∧ a < n) ∧ (0 ≤ b ∧ b < n)) ∧ a ≠ b ∧ ok = false ∧ A.length = 200 ∧ k = 3) := by
    unfold addFault at hk
    split at hk
    · left; exact ⟨by assumption, hk.symm⟩
    · rename_i q
      have q2 : (0 ≤ a ∧ a < n) ∧ (0 ≤ b ∧ b < n) := by omega
      split at hk
      · right; left; exact ⟨q2, by assumption, hk.symm⟩
      · split at hk
        · right; right; left; exact ⟨q2, by assumption, by rw [← hok]; simpa using by assumption, hk.symm⟩
        · split at hk
          · right; right; right; exact ⟨q2, by assumption, by rw [← hok]; simpa using by assumption, by assumption, hk.symm⟩
          · exact absurd hk.symm hk0
  have HN : Hid (∀ W, Ext w W → ∀ (c : Int) (r : Bool), r = decide (0 ≤ c ∧ c < n) → Calls Try.prog 43 #[.pointer (some ⟨G.gb, 0, none⟩), .int .i64 c] W fun e w' => e = .returned (.bool r) ∧ W = w') := fun W hW c r hr => gnode_any (h.m.ext hW) c r hr
  have HL : Hid (∀ W, Ext w W → ∀ ty, (Builtin.len_ #[82] ty #[.map (some G.eb)]).run Try.prog W = .ok (.int .i64 A.length) W) := fun W hW ty => (h.m.ext hW).lenE ty
  clear hxx hz hok hk hk0 h
  go_enter Try.func17, Try.ntmps17
  go_wp2_with fail
  refine (of_any _ a b).mono ?_
  rintro e w1 ⟨rfl, hb1⟩
  have X1 : Hid (Ext w w1) := hb1
  rw [edV_ek]
  have HXA : Hid (okE (min a b, max a b) ∧ (if (min a b, max a b) ∈ A then stV (f (min a b, max a b)) else .agg #[.int .i64 0, .bool false]) = stV z ∧ decide ((min a b, max a b) ∈ A) = ok) := HX.out
  generalize min a b = u at HXA ⊢
  generalize max a b = v at HXA ⊢
  clear hb1 HX
  go_wp2_with fail
  have X2 : Hid (Ext w (w1.alloc (.cells #[.int .i64 u, .int .i64 v] 38))) := X1.out.trans (Ext.alloc _ _)
  have KG : Hid (∀ W, Ext (w1.alloc (.cells #[.int .i64 u, .int .i64 v] 38)) W → GRd W G w1.heap.size u v (u, v) (stV z) ok) := fun W hW => (H.out.ext X2.out).read (Blk.new w1 _ _) HXA.out.1 HXA.out.2.1 HXA.out.2.2 hW
  generalize w1.heap.size = B at KG ⊢
  generalize w1.alloc (.cells #[.int .i64 u, .int .i64 v] 38) = w2 at X2 KG ⊢
  unfold stV at KG
  clear X1 HXA
  go_region_held3 (fun W => Ext w2 W ∧ GRd W G B u v (u, v) (.agg #[.int .i64 z.lv, .bool z.tr]) ok ∧ W.cell? ⟨G.gb, 1, none⟩ = some (.map (some G.eb)) ∧ W.cell? ⟨B, 0, none⟩ = some (.int .i64 u) ∧ W.cell? ⟨B, 1, none⟩ = some (.int .i64 v) ∧ (Instr.lookup 82 (.map (some G.eb)) (.agg #[.int .i64 u, .int .i64 v]) true).run Try.prog W = .ok (.tuple #[.agg #[.int .i64 z.lv, .bool z.tr], .bool ok]) W)
    ((refine (fun hE => ⟨hE, KG.out _ hE, (KG.out _ hE).c1, (KG.out _ hE).y0, (KG.out _ hE).y1, (KG.out _ hE).lk⟩ : Ext w2 _ → _) ?_; first | assumption | exact fst_ (by assumption) | exact Ext.refl _ | exact Ext.trans (by assumption) (Ext.alloc _ _) | exact Ext.drew _ | exact (Ext.alloc _ _).trans (Ext.drew _) | exact Ext.set_ (Ext.set_ (by assumption) (Nat.le_refl _) _) (Nat.le_refl _) _ | exact Ext.trans (fst_ (by assumption)) (by assumption) | (trace_state; fail)))
    (fail)
  all_goals
    rename_i hHeld
    have X3 : Hid (Ext w (w2.alloc (Obj.cells #[.int .i64 z.lv, .bool z.tr] 87)).drew) := X2.out.trans (fst_ hHeld)
    have R3 : Hid (GRd (w2.alloc (Obj.cells #[.int .i64 z.lv, .bool z.tr] 87)).drew G B u v (u, v) (.agg #[.int .i64 z.lv, .bool z.tr]) ok) := hHeld.2.1
    clear hHeld KG X2
    generalize (w2.alloc (Obj.cells #[.int .i64 z.lv, .bool z.tr] 87)).drew = w3 at X3 R3 ⊢
    generalize w2.heap.size = B2
    have N3 := Lib.hid (HN.out w3 X3.out)
    have L3 : Hid (∀ ty, (Builtin.len_ #[82] ty #[.map (some G.eb)]).run Try.prog w3 = .ok (.int .i64 A.length) w3) := HL.out w3 X3.out
    clear HN HL H
    rcases hkk.out with ⟨hr, rfl⟩ | ⟨⟨ha', hb'⟩, rfl, rfl⟩ | ⟨⟨ha', hb'⟩, hne, rfl, rfl⟩ | ⟨⟨ha', hb'⟩, hne, rfl, hl, rfl⟩
    · by_cases ha1 : 0 ≤ a ∧ a < n
      · have hb1 : ¬ (0 ≤ b ∧ b < n) := by omega
        have n1 := Lib.hid (N3.out a true (by simp [ha1]))
        have n2 := Lib.hid (N3.out b false (by simp only [hb1, decide_false]))
        clear N3 L3 hr hkk HK ha hb ha1 hb1 R3
        go_wp2_with fail
        refine n1.out.mono ?_
        rintro e w' ⟨rfl, rfl⟩
        go_wp2_with fail
        refine n2.out.mono ?_
        rintro e w' ⟨rfl, rfl⟩
        go_wp2
        go_ret
        exact ⟨rfl, X3.out⟩
      · have n1 := Lib.hid (N3.out a false (by simp only [ha1, decide_false]))
        clear N3 L3 hr hkk HK ha hb ha1 R3
        go_wp2_with fail
        refine n1.out.mono ?_
        rintro e w' ⟨rfl, rfl⟩
        go_wp2
        go_ret
        exact ⟨rfl, X3.out⟩
    · have n1 := Lib.hid (N3.out a true (by simp [ha']))
      clear N3 L3 hkk HK R3 ha hb ha' hb'
      go_wp2_with fail
      refine n1.out.mono ?_
      rintro e w' ⟨rfl, rfl⟩
      go_wp2_with fail
      refine n1.out.mono ?_
      rintro e w' ⟨rfl, rfl⟩
      go_wp2
      go_ret
      exact ⟨rfl, X3.out⟩
    · have n1 := Lib.hid (N3.out a true (by simp [ha']))
      have n2 := Lib.hid (N3.out b true (by simp [hb']))
      have q : (a == b) = false := by rw [beq_eq_false_iff_ne]; exact hne
      clear N3 L3 hkk HK R3 ha hb ha' hb' hne
      go_wp2_with fail
      refine n1.out.mono ?_
      rintro e w' ⟨rfl, rfl⟩
      go_wp2_with fail
      refine n2.out.mono ?_
      rintro e w' ⟨rfl, rfl⟩
      go_wp2
      go_ret
      exact ⟨rfl, X3.out⟩
    · have n1 := Lib.hid (N3.out a true (by simp [ha']))
      have n2 := Lib.hid (N3.out b true (by simp [hb']))
      have q : (a == b) = false := by rw [beq_eq_false_iff_ne]; exact hne
      have c1 := R3.out.c1
      have l3 := L3.out
      rw [hl] at l3
      clear N3 L3 hkk HK R3 ha hb ha' hb' hne hl
      go_wp2_with fail
      refine n1.out.mono ?_
      rintro e w' ⟨rfl, rfl⟩
      go_wp2_with fail
      refine n2.out.mono ?_
      rintro e w' ⟨rfl, rfl⟩
      go_wp2
      go_ret
      exact ⟨rfl, X3.out⟩
end
end Go.Proofs.Ytlcnoihmhaaekaa
namespace Go.Proofs.Ytlcnoihmhaaekaa
open Go Go.RowKit SQ TR DF PD
set_option linter.unusedVariables false

section
variable {w w' : World} {G : GrP} {n N N' : Nat} {A : List AK.Ed} {f : AK.Ed → GM.St} {Es : Nat → List AK.Ed}
theorem addFault_0 {a b : Int} (h : addFault n A a b = 0) : (0 ≤ a ∧ a < n) ∧ (0 ≤ b ∧ b < n) ∧ a ≠ b ∧ AK.ek a b ∉ A ∧ A.length ≠ 200 := by
  unfold addFault at h
  split at h
  · simp at h
  · split at h
    · simp at h
    · split at h
      · simp at h
      · split at h
        · simp at h
        · rename_i q1 q2 q3 q4
          exact ⟨by omega, by omega, q2, q3, q4⟩
/-- What has become of the graph and its forest of level 0. -/
theorem GrI.added (h : GrI w G n N A f) {a b : Nat} (ha : a < n) (hb : b < n) (hne : a ≠ b) (hm : AK.ek a b ∉ A) {s : Bool} (hs : s = true ↔ ¬ Cn (adj (GM.lvl f A 0)) a b)
    (hM : GrM w' G n (N + 1) A f (fun j => if j = 0 then (if s then putE (AK.ek a b) (GM.lvl f A 0) else GM.lvl f A 0) else GM.lvl f A j)) (hN : N + 1 < 1000000) (hc : Chg G.S w w') {W : World} (hW : Ext w' W) :
    ∃ W2, (Instr.mapUpdate 82 (.map (some G.eb)) (edV (AK.ek a b)) (.agg #[.int .i64 0, .bool s])).run Try.prog W = .ok () W2 ∧ GrI W2 G n (N + 2) (putE (AK.ek a b) A) (GM.updS f (AK.ek a b) ⟨0, s⟩) ∧ GrC w W2 G G := by
  have h60 := h.m.hn
  obtain ⟨W2, hr, hM2, hc2, hsz⟩ := (hM.ext hW).write hN (AK.ek a b) (okE_ek (by omega) (by omega)) ⟨0, s⟩
  obtain ⟨k1, k2, k3⟩ := h.k.add (by have := h.m.pos; omega) ha hb hne hm hs
  rw [if_neg hm] at hM2
  refine ⟨W2, hr, ⟨hM2.congr fun i hi => ?_, k1, h.few, by have := h.nN; omega⟩, GrC.same (((hc.trans (Chg.of_below hW) (fun i hi hs => by have := hc.size; omega)).trans hc2 (fun i _ hi => .inr (.inl hi)))) (fun _ h => h)⟩
  by_cases e : i = 0
  · subst e; rw [if_pos rfl]; exact k2
  · rw [if_neg e]; exact k3 i (by omega)
set_option maxRecDepth 100000 in
set_option maxHeartbeats 2000000 in
theorem gadd_ok (h : GrI w G n N A f) (hN : N + 1 < 1000000) (a b : Nat) (ha : a < n) (hb : b < n) (hne : a ≠ b) (hm : AK.ek a b ∉ A) (hl : A.length ≠ 200) :
    Calls Try.prog 17 #[.pointer (some ⟨G.gb, 0, none⟩), .int .i64 a, .int .i64 b] w fun e w' => ∃ s, e = .returned .nilIface ∧ GrI w' G n (N + 2) (putE (AK.ek a b) A) (GM.updS f (AK.ek a b) ⟨0, s⟩) ∧ GrC w w' G G := by
  have h60 := h.m.hn
  have H := Lib.hid h
  have hxx : okE (AK.ek a b) := okE_ek (by omega) (by omega)
  obtain ⟨F, hF⟩ := h.m.get h.m.pos
  have HF : Hid (G.Fs[0]? = some F ∧ okE (AK.ek a b) ∧ AK.ek a b ∉ A) := ⟨hF, hxx, hm⟩
  have HN : Hid (∀ W, Ext w W → ∀ (c : Nat), c < n → Calls Try.prog 43 #[.pointer (some ⟨G.gb, 0, none⟩), .int .i64 c] W fun e w' => e = .returned (.bool true) ∧ W = w') := fun W hW c hc => gnode_any (h.m.ext hW) c true (by simp [hc])
  have hq : ((a : Int) == (b : Int)) = false := by rw [beq_eq_false_iff_ne]; omega
  have hpos : (0 : Int) < (G.Fs.length : Int) := by have := h.m.pos; omega
  have hl2 : ((A.length : Int) == 200) = false := by rw [beq_eq_false_iff_ne]; omega
  obtain ⟨F0, hF0⟩ : ∃ F0, F.fb = F0 := ⟨_, rfl⟩
  have HFB := Lib.hid hF0
  clear hxx h hm hF hne hl hF0
  go_enter Try.func17, Try.ntmps17
  go_wp2_with fail
  refine (of_any _ (a : Int) (b : Int)).mono ?_
  rintro e w1 ⟨rfl, hb1⟩
  have X1 : Hid (Ext w w1) := hb1
  rw [edV_ek]
  have HXA : Hid (AK.ek (a : Int) b = (min (a : Int) b, max (a : Int) b)) := rfl
  generalize min (a : Int) b = u at HXA ⊢
  generalize max (a : Int) b = v at HXA ⊢
  clear hb1
  go_wp2_with fail
  have X2 : Hid (Ext w (w1.alloc (.cells #[.int .i64 u, .int .i64 v] 38))) := X1.out.trans (Ext.alloc _ _)
  have B2 : Hid (Blk (w1.alloc (.cells #[.int .i64 u, .int .i64 v] 38)) w1.heap.size 38 #[.int .i64 u, .int .i64 v] ∧ w.heap.size ≤ w1.heap.size) := ⟨Blk.new w1 _ _, X1.out.size⟩
  generalize w1.heap.size = B at B2 ⊢
  generalize w1.alloc (.cells #[.int .i64 u, .int .i64 v] 38) = w2 at X2 B2 ⊢
  have KG : Hid (∀ W, Ext w2 W → GRd W G B u v (u, v) (.agg #[.int .i64 0, .bool false]) false) := fun W hW => by
    have hm := HF.out.2.2
    rw [HXA.out] at hm
    exact (H.out.m.ext X2.out).read B2.out.1 (by have := HF.out.2.1; rw [HXA.out] at this; exact this) (by rw [if_neg hm]) (by simp [hm]) hW
  clear X1
  go_region_held3 (fun W => Ext w2 W ∧ GRd W G B u v (u, v) (.agg #[.int .i64 0, .bool false]) false ∧ W.cell? ⟨G.gb, 1, none⟩ = some (.map (some G.eb)) ∧ W.cell? ⟨B, 0, none⟩ = some (.int .i64 u) ∧ W.cell? ⟨B, 1, none⟩ = some (.int .i64 v) ∧ (Instr.lookup 82 (.map (some G.eb)) (.agg #[.int .i64 u, .int .i64 v]) true).run Try.prog W = .ok (.tuple #[.agg #[.int .i64 0, .bool false], .bool false]) W)
    ((refine (fun hE => ⟨hE, KG.out _ hE, (KG.out _ hE).c1, (KG.out _ hE).y0, (KG.out _ hE).y1, (KG.out _ hE).lk⟩ : Ext w2 _ → _) ?_; first | assumption | exact fst_ (by assumption) | exact Ext.refl _ | exact Ext.trans (by assumption) (Ext.alloc _ _) | exact Ext.drew _ | exact (Ext.alloc _ _).trans (Ext.drew _) | exact Ext.set_ (Ext.set_ (by assumption) (Nat.le_refl _) _) (Nat.le_refl _) _ | exact Ext.trans (fst_ (by assumption)) (by assumption) | (trace_state; fail)))
    (fail)
  all_goals
    rename_i hHeld
    have X3 : Hid (Ext w (w2.alloc (Obj.cells #[.int .i64 0, .bool false] 87)).drew) := X2.out.trans (fst_ hHeld)
    have B3 : Hid (Blk (w2.alloc (Obj.cells #[.int .i64 0, .bool false] 87)).drew B 38 #[.int .i64 u, .int .i64 v]) := B2.out.1.chg (Chg.of_below (fst_ hHeld)) (by have := B2.out.1.lt; omega)
    clear hHeld KG X2
    generalize (w2.alloc (Obj.cells #[.int .i64 0, .bool false] 87)).drew = w3 at X3 B3 ⊢
    generalize w2.heap.size = B9
    have H3 := Lib.hid (H.out.m.ext X3.out)
    have n1 := Lib.hid (HN.out w3 X3.out a ha)
    have n2 := Lib.hid (HN.out w3 X3.out b hb)
    have c1 : w3.cell? ⟨G.gb, 1, none⟩ = some (.map (some G.eb)) := H3.out.blk.cell 1
    have c2 : w3.cell? ⟨G.gb, 2, none⟩ = some (.slice (some ⟨G.ob, 0, none⟩) G.Fs.length G.c) := H3.out.blk.cell 2
    have c3 := H3.out.cellF HF.out.1
    rw [HFB.out] at c3
    have l3 := H3.out.lenE
    go_wp2_with fail
    refine n1.out.mono ?_
    rintro e w' ⟨rfl, rfl⟩
    go_wp2_with fail
    refine n2.out.mono ?_
    rintro e w' ⟨rfl, rfl⟩
    clear HN n1 n2
    have hF3 := H3.out.fo 0 F HF.out.1
    by_cases hc : Cn (adj (GM.lvl f A 0)) a b
    · have TS := tsame_ok hF3 a b ha hb true (by simp [hc])
      rw [HFB.out] at TS
      have TS := Lib.hid TS
      have HC : Hid ((false : Bool) = true ↔ ¬ Cn (adj (GM.lvl f A 0)) a b) := by simp [Hid, hc]
      clear hc hF3
      go_wp2_with fail
      refine TS.out.mono ?_
      rintro e w4 ⟨rfl, hx4⟩
      have H4 : Hid (GrM w4 G n (N + 1) A f (fun j => if j = 0 then (if (false : Bool) then putE (AK.ek (a : Int) b) (GM.lvl f A 0) else GM.lvl f A 0) else GM.lvl f A j)) := ((H3.out.ext hx4).mono (by omega)).congr fun i _ => by by_cases e : i = 0 <;> simp [e]
      have B4 : Hid (Blk w4 B 38 #[.int .i64 u, .int .i64 v]) := B3.out.chg (Chg.of_below hx4) (by have := B3.out.lt; omega)
      have C4 : Hid (Chg G.S w w4) := Chg.new (X3.out.trans hx4) _
      have d1 : w4.cell? ⟨G.gb, 1, none⟩ = some (.map (some G.eb)) := H4.out.blk.cell 1
      have y0 : w4.cell? ⟨B, 0, none⟩ = some (.int .i64 u) := B4.out.cell 0
      have y1 : w4.cell? ⟨B, 1, none⟩ = some (.int .i64 v) := B4.out.cell 1
      obtain ⟨W2, hr, hf, hg⟩ := H.out.added ha hb (fun e => by subst e; simp at hq) HF.out.2.2 HC.out H4.out hN C4.out (Ext.drew w4)
      have HR : Hid (GrI W2 G n (N + 2) (putE (AK.ek (a : Int) b) A) (GM.updS f (AK.ek (a : Int) b) ⟨0, false⟩) ∧ GrC w W2 G G) := ⟨hf, hg⟩
      rw [HXA.out, show edV (u, v) = .agg #[.int .i64 u, .int .i64 v] from rfl] at hr
      clear hx4 hf hg H3 H4 B3 B4 C4 X3 TS HC c1 c2 c3 l3
      go_wp2
      go_still_tail 8, (by kernel_rfl)
      go_wp2
      go_ret
      exact ⟨false, rfl, HR.out⟩
    · have TS := tsame_ok hF3 a b ha hb false (by simp [hc])
      rw [HFB.out] at TS
      have TS := Lib.hid TS
      have HC : Hid (¬ Cn (adj (GM.lvl f A 0)) a b) := hc
      clear hF3
      go_wp2_with fail
      refine TS.out.mono ?_
      rintro e w4 ⟨rfl, hx4⟩
      have H4 := Lib.hid (H3.out.ext hx4)
      have B4 : Hid (Blk w4 B 38 #[.int .i64 u, .int .i64 v]) := B3.out.chg (Chg.of_below hx4) (by have := B3.out.lt; omega)
      have X4 : Hid (Ext w w4) := X3.out.trans hx4
      have d2 : w4.cell? ⟨G.gb, 2, none⟩ = some (.slice (some ⟨G.ob, 0, none⟩) G.Fs.length G.c) := H4.out.blk.cell 2
      have d3 := H4.out.cellF HF.out.1
      have TL := tlink_ok (H4.out.fo 0 F HF.out.1) (by omega) a b ha hb hc
      rw [HFB.out] at d3 TL
      have TL := Lib.hid TL
      clear hx4 H3 B3 X3 TS c1 c2 c3 l3 hc
      go_wp2_with fail
      refine TL.out.mono ?_
      rintro e w5 ⟨rfl, hf5, hc5⟩
      have H5 : Hid (GrM w5 G n (N + 1) A f (fun j => if j = 0 then (if (true : Bool) then putE (AK.ek (a : Int) b) (GM.lvl f A 0) else GM.lvl f A 0) else GM.lvl f A j)) := by
        have := H4.out.turn HF.out.1 hf5 (by omega) hc5
        show GrM w5 G n (N + 1) A f _
        simpa using this
      have B5 : Hid (Blk w5 B 38 #[.int .i64 u, .int .i64 v]) := B4.out.chg hc5 (fun e => by
        have h1 := (H.out.m.fo 0 F HF.out.1).lt.2 _ e
        have := B2.out.2
        omega)
      have C5 : Hid (Chg G.S w w5) := (Chg.new X4.out _).trans hc5 (fun i hi hs => .inr (.inr (.inr ⟨0, F, HF.out.1, hs⟩)))
      have d1 : w5.cell? ⟨G.gb, 1, none⟩ = some (.map (some G.eb)) := H5.out.blk.cell 1
      have y0 : w5.cell? ⟨B, 0, none⟩ = some (.int .i64 u) := B5.out.cell 0
      have y1 : w5.cell? ⟨B, 1, none⟩ = some (.int .i64 v) := B5.out.cell 1
      obtain ⟨W2, hr, hf, hg⟩ := H.out.added ha hb (fun e => by subst e; simp at hq) HF.out.2.2 (s := true) ⟨fun _ => HC.out, fun _ => rfl⟩ H5.out hN C5.out (Ext.drew w5)
      have HR : Hid (GrI W2 G n (N + 2) (putE (AK.ek (a : Int) b) A) (GM.updS f (AK.ek (a : Int) b) ⟨0, true⟩) ∧ GrC w W2 G G) := ⟨hf, hg⟩
      rw [HXA.out, show edV (u, v) = .agg #[.int .i64 u, .int .i64 v] from rfl] at hr
      clear hf hg H5 H4 B4 B5 C5 X4 TL HC d2 d3 hf5 hc5
      go_wp2
      go_still_tail 8, (by kernel_rfl)
      go_wp2
      go_ret
      exact ⟨true, rfl, HR.out⟩
theorem gadd_any (h : GrI w G n N A f) (hN : N + 1 < 1000000) (a b : Int) (ha : -9223372036854775808 ≤ a ∧ a ≤ 9223372036854775807) (hb : -9223372036854775808 ≤ b ∧ b ≤ 9223372036854775807) :
    Calls Try.prog 17 #[.pointer (some ⟨G.gb, 0, none⟩), .int .i64 a, .int .i64 b] w (GAddPost w G n N A f a b) := by
  by_cases hk : addFault n A a b = 0
  · obtain ⟨h1, h2, h3, h4, h5⟩ := addFault_0 hk
    obtain ⟨a', rfl⟩ := Int.eq_ofNat_of_zero_le h1.1
    obtain ⟨b', rfl⟩ := Int.eq_ofNat_of_zero_le h2.1
    exact (gadd_ok h hN a' b' (by omega) (by omega) (by omega) h4 h5).mono fun e w' q => .inr ⟨hk, q⟩
  · exact (gadd_bad h a b ha hb rfl hk).mono fun e w' q => .inl ⟨_, rfl, hk, q⟩
end
end Go.Proofs.Ytlcnoihmhaaekaa
