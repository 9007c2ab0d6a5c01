/-
  Towards GraphPlays: graph's Has; the references' SizeOf; parts of a graph, counted and measured. Conditions: the graph lies as 'GrM' says, the row as 'NRow'.
-/
import Derived.Test.YthgniehfejklhaaGreatDoorBs21
import Derived.Test.YthgniehfejklhaaGreatDoorBs41
import Derived.Test.YthgniehfejklhaaGreatDoorBs42
import Derived.Test.YthgniehfejklhaaGreatDoorBs40
import Derived.Deep.RegionHeld3
namespace Go.Proofs.YthgniehfejklhaaGreatDoor
open Go Go.RowKit SQ TR DF PD PT
set_option linter.unusedVariables false

section
variable {w w' : World} {G : GrP} {n N : Nat} {A : List AK.Ed} {f : AK.Ed → GM.St} {Es : Nat → List AK.Ed}
set_option maxHeartbeats 1000000 in
theorem ghas_range (h : GrM w G n N A f Es) (a b : Int) (hr : ¬ (0 ≤ a ∧ a < n) ∨ ¬ (0 ≤ b ∧ b < n)) :
    Calls Tryz.prog 17 #[.pointer (some ⟨G.gb, 0, none⟩), .int .i64 a, .int .i64 b] w fun e w' => e = .returned (.tuple #[.bool false, errV 1]) ∧ w = w' := by
  by_cases ha : 0 ≤ a ∧ a < n
  · have hb : ¬ (0 ≤ b ∧ b < n) := by omega
    have h1 := Lib.hid (gnode_any h a true (by simp [ha]))
    have h2 := Lib.hid (gnode_any h b false (by simp only [hb, decide_false]))
    clear hr ha hb h
    go_enter Tryz.func17, Tryz.ntmps17
    go_wp2_with fail
    refine h1.out.mono ?_
    rintro e w' ⟨rfl, rfl⟩
    go_wp2_with fail
    refine h2.out.mono ?_
    rintro e w' ⟨rfl, rfl⟩
    go_wp2
    go_ret2
    exact ⟨rfl, rfl⟩
  · have h1 := Lib.hid (gnode_any h a false (by simp only [ha, decide_false]))
    clear hr ha h
    go_enter Tryz.func17, Tryz.ntmps17
    go_wp2_with fail
    refine h1.out.mono ?_
    rintro e w' ⟨rfl, rfl⟩
    go_wp2
    go_ret2
    exact ⟨rfl, rfl⟩
set_option maxRecDepth 100000 in
set_option maxHeartbeats 2000000 in
theorem ghas_ok (h : GrM w G n N A f Es) (a b : Nat) (ha : a < n) (hb : b < n) (t : Bool) (ht : decide (AK.ek (a : Int) b ∈ A) = t) :
    Calls Tryz.prog 17 #[.pointer (some ⟨G.gb, 0, none⟩), .int .i64 a, .int .i64 b] w fun e w' => e = .returned (.tuple #[.bool t, .nilIface]) ∧ Ext w w' := by
  have h60 := h.hn
  have c1 : w.cell? ⟨G.gb, 1, none⟩ = some (.map (some G.eb)) := h.blk.cell 1
  have hlt := h.blk.lt
  have N1 := Lib.hid (gnode_any h a true (by simp [ha]))
  have N2 := Lib.hid (gnode_any h b true (by simp [hb]))
  obtain ⟨s, hs⟩ : ∃ s : GM.St, (if AK.ek (a : Int) b ∈ A then stV (f (AK.ek a b)) else .agg #[.int .i64 0, .bool false]) = .agg #[.int .i64 (s.lv : Nat), .bool s.tr] := by
    by_cases q : AK.ek (a : Int) b ∈ A
    · exact ⟨f (AK.ek a b), by rw [if_pos q]; rfl⟩
    · exact ⟨⟨0, false⟩, by rw [if_neg q]; rfl⟩
  have LK : Hid (∀ W, Ext w W → (Instr.lookup 81 (.map (some G.eb)) (edV (AK.ek a b)) true).run Tryz.prog W = .ok (.tuple #[.agg #[.int .i64 s.lv, .bool s.tr], .bool t]) W) := fun W hW =>
    (h.ext hW).look_ok _ (okE_ek (by omega) (by omega)) hs ht
  clear h hs ht
  go_enter Tryz.func17, Tryz.ntmps17
  go_wp2_with fail
  refine N1.out.mono ?_
  rintro e w' ⟨rfl, rfl⟩
  go_wp2_with fail
  refine N2.out.mono ?_
  rintro e w' ⟨rfl, rfl⟩
  go_wp2
  have KG : Hid (∀ W, Ext w W → W.cell? ⟨G.gb, 1, none⟩ = some (.map (some G.eb)) ∧ (Instr.lookup 81 (.map (some G.eb)) (edV (AK.ek a b)) true).run Tryz.prog W = .ok (.tuple #[.agg #[.int .i64 s.lv, .bool s.tr], .bool t]) W) := fun W hW => ⟨(hW.cell (p := ⟨G.gb, 1, none⟩) hlt).trans c1, LK.out W hW⟩
  go_region_held3 (fun w' => Ext w w' ∧ w'.cell? ⟨G.gb, 1, none⟩ = some (.map (some G.eb)) ∧ (Instr.lookup 81 (.map (some G.eb)) (edV (AK.ek a b)) true).run Tryz.prog w' = .ok (.tuple #[.agg #[.int .i64 s.lv, .bool s.tr], .bool t]) w')
    ((refine keepS KG.out ?_; first | assumption | exact fst_ (by assumption) | exact Ext.trans (by assumption) (Ext.alloc _ _) | exact Ext.drew _ | exact (Ext.alloc _ _).trans (Ext.drew _) | exact Ext.set_ (Ext.set_ (by assumption) (Nat.le_refl _) _) (Nat.le_refl _) _ | exact Ext.trans (fst_ (by assumption)) (by assumption) | (trace_state; fail)))
    (first
      | (go_at_call 41; refine (of_any _ (a : Int) (b : Int)).mono ?_; rintro e w7 ⟨rfl, hb7⟩; first | have X7 : Ext w w7 := Ext.trans (Ext.drew _) hb7 | (have X7 : Ext w w7 := Ext.trans ((Ext.alloc _ _).trans (Ext.drew _)) hb7; have B7 : Blk w7 w.heap.size 90 #[.int .i64 0, .bool false] := ((Blk.new w _ _).drew).chg (Chg.of_below hb7) (by simp); have y0 := B7.cell 0; have y1 := B7.cell 1; have f0 := B7.frozen 0; have f1 := B7.frozen 1))
      | fail)
  go_wp2
  all_goals go_ret2
  all_goals exact ⟨rfl, fst_ (by assumption)⟩
theorem gr_prs (hok : ∀ x ∈ A, 0 ≤ x.1 ∧ x.1 < x.2 ∧ x.2 < (n : Int)) (x y : Nat) : adj A x y ↔ (x, y) ∈ prs A ∨ (y, x) ∈ prs A := by
  have key : ∀ x y : Nat, ((x : Int), (y : Int)) ∈ A ↔ (x, y) ∈ prs A := fun x y => by
    unfold prs
    rw [List.mem_map]
    constructor
    · intro h; exact ⟨_, h, by simp⟩
    · rintro ⟨z, hz, e⟩
      have := hok z hz
      have e1 := congrArg Prod.fst e
      have e2 := congrArg Prod.snd e
      simp only at e1 e2
      have : z = ((x : Int), (y : Int)) := Prod.ext (by simp only; omega) (by simp only; omega)
      rwa [← this]
  unfold adj
  rw [key, key]
theorem gr_inn (hok : ∀ x ∈ A, 0 ≤ x.1 ∧ x.1 < x.2 ∧ x.2 < (n : Int)) : Inn n A := fun x hx => by have := hok x hx; omega
theorem gparts_cn (hok : ∀ x ∈ A, 0 ≤ x.1 ∧ x.1 < x.2 ∧ x.2 < (n : Int)) {p : List Nat} (hp : IsParts n (prs A) p) {x y v u : Nat} (hx : p[x]? = some v) (hy : p[y]? = some u) : v = u ↔ Cn (adj A) x y :=
  (hp.rel hx hy).trans (con_iff (gr_prs hok) x y)
theorem gcount (h : GrI w G n N A f) {p : List Nat} (hp : IsParts n (prs A) p) : cntP n p + (GM.lvl f A 0).length = n := by
  have h1 := tree_len h
  have : cntP n p = PD.cnt (ldr A) n := by
    unfold cntP
    refine cnt_congr fun i hi => ?_
    obtain ⟨v, hv, hvi, hc⟩ := hp.get hi
    have hc2 : Cn (adj A) i v := (con_iff (gr_prs h.k.ok) i v).1 hc
    rw [ldr_iff]
    unfold fx
    rw [hv]
    constructor
    · intro q u hu c
      have hiv : v = i := by simpa using q
      have := hp.least hv (by omega) ((con_iff (gr_prs h.k.ok) i u).2 c)
      omega
    · intro q
      have : v = i := by
        by_cases e : v < i
        · exact absurd hc2 (q v e)
        · omega
      simp [this]
  omega
theorem gsize_cnt (hok : ∀ x ∈ A, 0 ≤ x.1 ∧ x.1 < x.2 ∧ x.2 < (n : Int)) {p : List Nat} (hp : IsParts n (prs A) p) {x v : Nat} (hv : p[x]? = some v) : PD.cnt (fun i => decide (p[i]? = some v)) n = (comp n A x).length := by
  rw [comp_sz]
  unfold GM.sz
  refine cnt_congr fun i hi => ?_
  obtain ⟨u, hu, _⟩ := hp.get hi
  simp only [decide_eq_true_eq]
  rw [hu, ← gparts_cn hok hp hv hu]
  exact ⟨fun e => (Option.some.inj e).symm, fun e => by rw [e]⟩
end
set_option maxHeartbeats 1000000 in
theorem sizeOf_any (w : World) (g c n : Nat) (p : List Nat) (hp : NRow w (.slice (some ⟨g, 0, none⟩) n c) n p) (x v : Nat) (hx : x < n) (hv : p[x]? = some v) (hnb : n ≤ 1000000) :
    Calls Tryz.prog 19 #[.slice (some ⟨g, 0, none⟩) n c, .int .i64 x] w fun e w' => e = .returned (.int .i64 (PD.cnt (fun i => decide (p[i]? = some v)) n : Nat)) ∧ Ext w w' := by
  have hpi := natv_ints hp
  have HP := Lib.hid hp
  have HN := Lib.hid hpi.2
  have HV := Lib.hid hv
  have hgb : g < w.heap.size := own_lt (k := g) hp (by simp [Value.ownBlock])
  have HC : Hid (∀ W, Ext w W → ∀ k u, k < n → p[k]? = some u → W.cell? ⟨g, k, none⟩ = some (.int .i64 (u : Nat))) := fun W hW k u hk hu => (hW.cell (p := ⟨g, k, none⟩) hgb).trans (nrow_cell HP.out hu hk)
  clear hp hpi hv
  go_enter Tryz.func19, Tryz.ntmps19
  go_wp2
  go_loopw [5, 6] (fun v5 v6 wr => ∃ (k s : Nat), k ≤ n ∧ s ≤ k ∧ v5 = .int .i64 s ∧ v6 = .int .i64 k ∧ Hid (s = PD.cnt (fun i => decide (p[i]? = some v)) k ∧ Ext w wr)) (fun _ v6 _ => n - (intOf v6).toNat)
  case atStart => exact ⟨0, 0, Nat.zero_le _, Nat.le_refl _, rfl, rfl, rfl, Ext.refl _⟩
  case round =>
    obtain ⟨k, s, hk, hs, rfl, rfl, hR⟩ := hrel
    by_cases hlt : k < n
    · obtain ⟨u, hu⟩ : ∃ u, p[k]? = some u := ⟨_, List.getElem?_eq_getElem (by rw [HN.out]; exact hlt)⟩
      have q1 := HC.out wr hR.out.2 k u hlt hu
      have q2 := HC.out wr hR.out.2 x v hx HV.out
      have z0 : (0 : Int) ≤ (k : Int) := by omega
      have z1 : (k : Int) < (n : Int) := by omega
      have z2 : (x : Int) < (n : Int) := by omega
      have hst : PD.cnt (fun i => decide (p[i]? = some v)) (k + 1) = PD.cnt (fun i => decide (p[i]? = some v)) k + if u = v then 1 else 0 := by
        simp [PD.cnt, hu]
      have HS := Lib.hid hst
      clear hu hst
      by_cases e : u = v
      · subst e
        have HZ : Hid (s + 1 = PD.cnt (fun i => decide (p[i]? = some u)) (k + 1) ∧ ∀ nq, Ext w (wr.drewN nq)) := ⟨by rw [HS.out, if_pos rfl, hR.out.1], fun nq => hR.out.2.trans (Ext.drewN wr nq)⟩
        clear hR HS
        go_wp2
        go_quiet (fail)
        go_wp2
        go_roundw
        case rel => exact ⟨k + 1, s + 1, by omega, by omega, by go_num, by go_num, HZ.out.1, HZ.out.2 _⟩
        case measure => simp [intOf]; omega
      · have q : ((u : Int) == (v : Int)) = false := by simp; omega
        have HZ : Hid (s = PD.cnt (fun i => decide (p[i]? = some v)) (k + 1) ∧ ∀ nq, Ext w (wr.drewN nq)) := ⟨by rw [HS.out, if_neg e, hR.out.1]; rfl, fun nq => hR.out.2.trans (Ext.drewN wr nq)⟩
        clear hR e HS
        go_wp2
        go_quiet (fail)
        go_wp2
        go_roundw
        case rel => exact ⟨k + 1, s, by omega, by omega, rfl, by go_num, HZ.out.1, HZ.out.2 _⟩
        case measure => simp [intOf]; omega
    · obtain rfl : n = k := by omega
      have HE := Lib.hid hR.out
      clear hR
      go_wp2
      go_ret
      exact ⟨ret_i (by rw [HE.out.1]), HE.out.2⟩
end Go.Proofs.YthgniehfejklhaaGreatDoor
