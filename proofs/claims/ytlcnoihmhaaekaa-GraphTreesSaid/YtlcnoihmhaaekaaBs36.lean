/-
  Walk of graph's Drop. Condition: the graph lies in memory as 'GrI' says.
  Walk of graph's Drop of an edge that is there. Condition: the graph lies in memory as 'GrI' says.
-/
import Derived.Test.YtlcnoihmhaaekaaBs35
namespace Go.Proofs.Ytlcnoihmhaaekaa
open Go Go.RowKit SQ TR DF PD
set_option linter.unusedVariables false

def GDropPost (w : World) (G : GrP) (n N : Nat) (A : List AK.Ed) (f : AK.Ed → GM.St) (x : AK.Ed) (e : Ending) (w' : World) : Prop :=
  ∃ (G' : GrP) (f' : AK.Ed → GM.St), e = .returned .nilIface ∧ GrI w' G' n (N + 4000) (cutE x A) f' ∧ GrC w w' G G' ∧ ∀ y ∈ cutE x A, (f y).lv ≤ (f' y).lv
/-- Level by level it is cut. -/
structure Dr1 (w wr : World) (G : GrP) (n N : Nat) (A : List AK.Ed) (f : AK.Ed → GM.St) (x : AK.Ed) (j : Nat) : Prop where
  g : GrM wr G n N (cutE x A) f (fun q => if q < j then cutE x (GM.lvl f A q) else GM.lvl f A q)
  c : Chg G.S w wr
/-- The levels above k are mended. -/
structure Dr2 (w wr : World) (G G' : GrP) (n N : Nat) (A B : List AK.Ed) (f f' : AK.Ed → GM.St) : Prop where
  g : GrM wr G' n N B f' (GM.lvl f' B)
  c : GrC w wr G G'
  six : G'.Fs.length ≤ 6
  le : G.Fs.length ≤ G'.Fs.length
  up : ∀ y ∈ B, (f y).lv ≤ (f' y).lv
def DrZ (w wr : World) (G : GrP) (n N : Nat) (A B : List AK.Ed) (f : AK.Ed → GM.St) (a b : Nat) (z : Int) : Prop :=
  ∃ (G' : GrP) (f' : AK.Ed → GM.St), Dr2 w wr G G' n N A B f f' ∧ ((∃ k : Nat, z = k ∧ k < G'.Fs.length ∧ GM.BOk n G'.Fs.length B f' a b k) ∨ (z = -1 ∧ GM.GOk n G'.Fs.length B f'))
section
variable {w w' wr W : World} {G G' : GrP} {n N N' a b j k : Nat} {A B : List AK.Ed} {f f' : AK.Ed → GM.St} {Es : Nat → List AK.Ed} {F : FoP} {x : AK.Ed}
theorem Dr1.next (h : Dr1 w wr G n N A f x j) (hF : G.Fs[j]? = some F) (hf : FoAt w' F n (N + 2) (cutE x (GM.lvl f A j))) (hc : Chg F.S wr w') : Dr1 w w' G n (N + 2) A f x (j + 1) := by
  refine ⟨(h.g.turn hF hf (by omega) hc).congr fun q _ => ?_, h.c.step (hc.mono fun k _ hk => .inr (.inr (.inr ⟨_, F, hF, hk⟩)))⟩
  by_cases e : q = j
  · subst e; simp
  · rw [if_neg e]
    by_cases e2 : q < j
    · rw [if_pos e2, if_pos (by omega)]
    · rw [if_neg e2, if_neg (by omega)]
theorem Dr1.done (h : Dr1 w wr G n N A f x ((f x).lv + 1)) (h6 : G.Fs.length ≤ 6) : Dr2 w wr G G n N A (cutE x A) f f := by
  refine ⟨h.g.congr fun q _ => ?_, GrC.same h.c fun _ h => h, h6, Nat.le_refl _, fun _ _ => Nat.le_refl _⟩
  by_cases e : q < (f x).lv + 1
  · rw [if_pos e]; exact GM.lvl_cut x q
  · rw [if_neg e]; exact GM.cut_lvl_hi (by omega)
/-- What mend leaves. -/
theorem Dr2.mended {e : Ending} (h : Dr2 w wr G G' n N A B f f') (hn : n ≤ N) (hk : k < G'.Fs.length) (hm : MendPost wr G' n N B f' a b k e w') :
    (e = .returned (.tuple #[.bool true, .nilIface]) ∧ ∃ (G2 : GrP) (f2 : AK.Ed → GM.St), GrI w' G2 n (N + 700) B f2 ∧ GrC w w' G G2 ∧ ∀ y ∈ B, (f y).lv ≤ (f2 y).lv) ∨
    (e = .returned (.tuple #[.bool false, .nilIface]) ∧ DrZ w w' G n (N + 700) A B f a b ((k : Int) - 1)) := by
  obtain ⟨G2, f2, c2, u2, s2, l2, hcase⟩ := hm
  have hu : ∀ y ∈ B, (f y).lv ≤ (f2 y).lv := fun y hy => Nat.le_trans (h.up y hy) (u2 y hy)
  rcases hcase with ⟨rfl, hg⟩ | ⟨rfl, hg, hb, hcon, hsm⟩
  · exact .inl ⟨rfl, G2, f2, hg, h.c.trans c2, hu⟩
  · refine .inr ⟨rfl, G2, f2, ⟨hg, h.c.trans c2, s2, Nat.le_trans h.le l2, hu⟩, ?_⟩
    rcases Nat.eq_zero_or_pos k with rfl | hp
    · refine .inr ⟨by omega, hb.done hcon fun j => ?_⟩
      rcases Nat.eq_zero_or_pos j with rfl | hj
      · exact hsm 0 (Nat.le_refl _)
      · exact hb.smh j hj
    · obtain ⟨k', rfl⟩ : ∃ k', k = k' + 1 := ⟨k - 1, by omega⟩
      exact .inl ⟨k', by omega, by omega, hb.down hcon (hsm _ (Nat.le_refl _))⟩
theorem cutE_mem_lvl {j : Nat} (hx : x ∈ A) (ht : (f x).tr = true) (hj : j ≤ (f x).lv) : x ∈ GM.lvl f A j := GM.lvl_mem.2 ⟨hx, ht, hj⟩
set_option maxHeartbeats 1000000 in
theorem gdrop_range (h : GrM w G n N A f Es) (a b : Int) (hr : ¬ (0 ≤ a ∧ a < n) ∨ ¬ (0 ≤ b ∧ b < n)) :
    Calls Try.prog 19 #[.pointer (some ⟨G.gb, 0, none⟩), .int .i64 a, .int .i64 b] w fun e w' => e = .returned (errV 1) ∧ w = w' := by
  by_cases ha : 0 ≤ a ∧ a < n
  · have hb : ¬ (0 ≤ b ∧ b < n) := by omega
    have h1 := Lib.hid (gnode_any h a true (by simp [ha]))
    have h2 := Lib.hid (gnode_any h b false (by simp only [hb, decide_false]))
    clear hr ha hb h
    go_enter Try.func19, Try.ntmps19
    go_wp2_with fail
    refine h1.out.mono ?_
    rintro e w' ⟨rfl, rfl⟩
    go_wp2_with fail
    refine h2.out.mono ?_
    rintro e w' ⟨rfl, rfl⟩
    go_wp2
    go_ret
    exact ⟨rfl, rfl⟩
  · have h1 := Lib.hid (gnode_any h a false (by simp only [ha, decide_false]))
    clear hr ha h
    go_enter Try.func19, Try.ntmps19
    go_wp2_with fail
    refine h1.out.mono ?_
    rintro e w' ⟨rfl, rfl⟩
    go_wp2
    go_ret
    exact ⟨rfl, rfl⟩
set_option maxRecDepth 100000 in
set_option maxHeartbeats 4000000 in
theorem gdrop_none (h : GrM w G n N A f Es) (a b : Nat) (ha : a < n) (hb : b < n) (hm : AK.ek a b ∉ A) :
    Calls Try.prog 19 #[.pointer (some ⟨G.gb, 0, none⟩), .int .i64 a, .int .i64 b] w fun e w' => e = .returned (errV 4) ∧ Ext w w' := by
  have h60 := h.hn
  have H := Lib.hid h
  have hxx : okE (AK.ek a b) := okE_ek (by omega) (by omega)
  have HF : Hid (okE (AK.ek a b) ∧ AK.ek a b ∉ A) := ⟨hxx, hm⟩
  have n1 := Lib.hid (gnode_any h a true (by simp [ha]))
  have n2 := Lib.hid (gnode_any h b true (by simp [hb]))
  clear hxx h hm
  go_enter Try.func19, Try.ntmps19
  go_wp2_with fail
  refine n1.out.mono ?_
  rintro e w' ⟨rfl, rfl⟩
  go_wp2_with fail
  refine n2.out.mono ?_
  rintro e w' ⟨rfl, rfl⟩
  go_wp2_with fail
  refine (of_any _ (a : Int) (b : Int)).mono ?_
  rintro e w1 ⟨rfl, hb1⟩
  have X1 : Hid (Ext w w1) := hb1
  rw [edV_ek]
  have HXA : Hid (AK.ek (a : Int) b = (min (a : Int) b, max (a : Int) b)) := rfl
  generalize min (a : Int) b = u at HXA ⊢
  generalize max (a : Int) b = v at HXA ⊢
  clear hb1 n1 n2
  go_wp2_with fail
  have X2 : Hid (Ext w (w1.alloc (.cells #[.int .i64 u, .int .i64 v] 38))) := X1.out.trans (Ext.alloc _ _)
  have B2 : Hid (Blk (w1.alloc (.cells #[.int .i64 u, .int .i64 v] 38)) w1.heap.size 38 #[.int .i64 u, .int .i64 v]) := Blk.new w1 _ _
  generalize w1.heap.size = B at B2 ⊢
  generalize w1.alloc (.cells #[.int .i64 u, .int .i64 v] 38) = w2 at X2 B2 ⊢
  have KG : Hid (∀ W, Ext w2 W → GRd W G B u v (u, v) (.agg #[.int .i64 0, .bool false]) false) := fun W hW => by
    have hm := HF.out.2
    rw [HXA.out] at hm
    exact (H.out.ext X2.out).read B2.out (by have := HF.out.1; rw [HXA.out] at this; exact this) (by rw [if_neg hm]) (by simp [hm]) hW
  clear X1
  go_region_held3 (fun W => Ext w2 W ∧ W.cell? ⟨G.gb, 1, none⟩ = some (.map (some G.eb)) ∧ W.cell? ⟨B, 0, none⟩ = some (.int .i64 u) ∧ W.cell? ⟨B, 1, none⟩ = some (.int .i64 v) ∧ (Instr.lookup 82 (.map (some G.eb)) (.agg #[.int .i64 u, .int .i64 v]) true).run Try.prog W = .ok (.tuple #[.agg #[.int .i64 0, .bool false], .bool false]) W)
    ((refine (fun hE => ⟨hE, (KG.out _ hE).c1, (KG.out _ hE).y0, (KG.out _ hE).y1, (KG.out _ hE).lk⟩ : Ext w2 _ → _) ?_; first | assumption | exact fst_ (by assumption) | exact Ext.refl _ | exact Ext.trans (by assumption) (Ext.alloc _ _) | exact Ext.drew _ | exact (Ext.alloc _ _).trans (Ext.drew _) | exact Ext.set_ (Ext.set_ (by assumption) (Nat.le_refl _) _) (Nat.le_refl _) _ | exact Ext.trans (fst_ (by assumption)) (by assumption) | (trace_state; fail)))
    (fail)
  all_goals
    rename_i hHeld
    have X3 : Hid (Ext w (w2.alloc (Obj.cells #[.int .i64 0, .bool false] 87)).drew) := X2.out.trans (fst_ hHeld)
    clear hHeld KG X2
    go_wp2
    go_ret
    exact ⟨rfl, X3.out⟩
end
end Go.Proofs.Ytlcnoihmhaaekaa
namespace Go.Proofs.Ytlcnoihmhaaekaa
open Go Go.RowKit SQ TR DF PD
set_option linter.unusedVariables false

section
variable {w : World} {G : GrP} {n N a b : Nat} {A : List AK.Ed} {f : AK.Ed → GM.St}
set_option maxRecDepth 100000 in
set_option maxHeartbeats 8000000 in
theorem gdrop_ok (h : GrI w G n N A f) (hN : N + 4000 < 1000000) (hl : A.length ≤ 200) (ha : a < n) (hb : b < n) (hm : AK.ek a b ∈ A) :
    Calls Try.prog 19 #[.pointer (some ⟨G.gb, 0, none⟩), .int .i64 a, .int .i64 b] w (GDropPost w G n N A f (AK.ek a b)) := by
  have h60 := h.m.hn
  have hnN := h.nN
  have H := Lib.hid h
  have hxx : okE (AK.ek a b) := okE_ek (by omega) (by omega)
  have HF : Hid (okE (AK.ek a b) ∧ AK.ek a b ∈ A) := ⟨hxx, hm⟩
  have hab : a ≠ b := by
    have := h.k.ok _ hm
    unfold AK.ek at this
    simp only at this
    omega
  have HAD : Hid (adj A a b) := (h.k.adj_ek hab).1 hm
  obtain ⟨s, hs⟩ : ∃ s, f (AK.ek a b) = s := ⟨_, rfl⟩
  have HS := Lib.hid hs
  have hlv : s.lv ≤ 4 := by rw [← hs]; exact h.k.lv_le h60.2 HAD.out
  have htop : Hid (s.lv < G.Fs.length) := by rw [← hs]; exact h.k.top _ hm
  have n1 := Lib.hid (gnode_any h.m a true (by simp [ha]))
  have n2 := Lib.hid (gnode_any h.m b true (by simp [hb]))
  have HAB := Lib.hid hab
  clear hxx h hm hs hab
  go_enter Try.func19, Try.ntmps19
  go_wp2_with fail
  refine n1.out.mono ?_
  rintro e w' ⟨rfl, rfl⟩
  go_wp2_with fail
  refine n2.out.mono ?_
  rintro e w' ⟨rfl, rfl⟩
  go_wp2_with fail
  refine (of_any _ (a : Int) (b : Int)).mono ?_
  rintro e w1 ⟨rfl, hb1⟩
  have X1 : Hid (Ext w w1) := hb1
  rw [edV_ek]
  have HXA : Hid (AK.ek (a : Int) b = (min (a : Int) b, max (a : Int) b)) := rfl
  generalize min (a : Int) b = u at HXA ⊢
  generalize max (a : Int) b = v at HXA ⊢
  clear hb1 n1 n2
  go_wp2_with fail
  have X2 : Hid (Ext w (w1.alloc (.cells #[.int .i64 u, .int .i64 v] 38))) := X1.out.trans (Ext.alloc _ _)
  have B2 : Hid (Blk (w1.alloc (.cells #[.int .i64 u, .int .i64 v] 38)) w1.heap.size 38 #[.int .i64 u, .int .i64 v] ∧ w.heap.size ≤ w1.heap.size) := ⟨Blk.new w1 _ _, X1.out.size⟩
  generalize w1.heap.size = B at B2 ⊢
  generalize w1.alloc (.cells #[.int .i64 u, .int .i64 v] 38) = w2 at X2 B2 ⊢
  have KG : Hid (∀ W, Ext w2 W → GRd W G B u v (u, v) (.agg #[.int .i64 s.lv, .bool s.tr]) true) := fun W hW => by
    have hm := HF.out.2
    have hs := HS.out
    rw [HXA.out] at hm hs
    exact (H.out.m.ext X2.out).read B2.out.1 (by have := HF.out.1; rw [HXA.out] at this; exact this) (by rw [if_pos hm, hs]; rfl) (by simp [hm]) hW
  clear X1
  go_upto_region 4 with fail
  go_cut [8, 9] (fun s8 s9 wx => ∃ C2 : Nat, s8 = .pointer (some ⟨C2, 0, none⟩) ∧ s9 = .bool true ∧ Hid (Ext w2 wx ∧ Blk wx C2 87 #[.int .i64 s.lv, .bool s.tr] ∧ w2.heap.size ≤ C2))
  case first =>
    go_region_held3 (fun W => Ext w2 W ∧ W.cell? ⟨G.gb, 1, none⟩ = some (.map (some G.eb)) ∧ W.cell? ⟨B, 0, none⟩ = some (.int .i64 u) ∧ W.cell? ⟨B, 1, none⟩ = some (.int .i64 v) ∧ (Instr.lookup 82 (.map (some G.eb)) (.agg #[.int .i64 u, .int .i64 v]) true).run Try.prog W = .ok (.tuple #[.agg #[.int .i64 s.lv, .bool s.tr], .bool true]) W)
      ((refine (fun hE => ⟨hE, (KG.out _ hE).c1, (KG.out _ hE).y0, (KG.out _ hE).y1, (KG.out _ hE).lk⟩ : Ext w2 _ → _) ?_; first | assumption | exact fst_ (by assumption) | exact Ext.refl _ | exact Ext.trans (by assumption) (Ext.alloc _ _) | exact Ext.drew _ | exact (Ext.alloc _ _).trans (Ext.drew _) | exact Ext.set_ (Ext.set_ (by assumption) (Nat.le_refl _) _) (Nat.le_refl _) _ | exact Ext.trans (fst_ (by assumption)) (by assumption) | (trace_state; fail)))
      (fail)
    all_goals
      rename_i hHeld
      have HH : Hid (Ext w2 (w2.alloc (Obj.cells #[.int .i64 s.lv, .bool s.tr] 87)).drew ∧ Blk (w2.alloc (Obj.cells #[.int .i64 s.lv, .bool s.tr] 87)).drew w2.heap.size 87 #[.int .i64 s.lv, .bool s.tr] ∧ w2.heap.size ≤ w2.heap.size) := ⟨fst_ hHeld, (Blk.new w2 _ _).drew, Nat.le_refl _⟩
      clear hHeld
      go_wp2
      go_meet
      exact ⟨_, rfl, rfl, HH.out⟩
  case rest =>
    obtain ⟨C2, rfl, rfl, HC⟩ := hcut
    have hk := KG.out wc HC.out.1
    have c1 := hk.c1
    have y0 := hk.y0
    have y1 := hk.y1
    have XW : Hid (Ext w wc) := X2.out.trans HC.out.1
    have HG := H.out.m.ext XW.out
    obtain ⟨W3, hr0, hg3, hc3, hsz3⟩ := (HG.ext (Ext.drew wc)).strike (H.out.k.up.imp (fun {x y} h => by intro e; subst e; unfold ltE at h; omega)) (AK.ek a b) HF.out.1 HF.out.2
    have hr : ∀ ty, (Builtin.delete_ #[82, 38] ty #[.map (some G.eb), .agg #[.int .i64 u, .int .i64 v]]).run Try.prog wc.drew = .ok (.tuple #[]) W3 := fun ty => by
      have := hr0 ty
      rw [HXA.out] at this
      exact this
    have C3 : Hid (Chg G.S w W3) := (Chg.new (XW.out.trans (Ext.drew wc)) G.S).trans hc3 (fun k _ hk => Or.inr (Or.inl hk))
    have HW3 : Hid (GrM W3 G n N (cutE (AK.ek a b) A) f (GM.lvl f A)) := hg3
    have hC2 : Hid (∀ k, G.S k → k < C2) := fun k hk => by
      have h1 := H.out.m.lt k hk
      have h2 := X2.out.size
      have h3 := HC.out.2.2
      omega
    have S3 : Hid (Blk W3 C2 87 #[.int .i64 s.lv, .bool s.tr]) := (HC.out.2.1.drew).chg hc3 (fun e => by have := hC2.out _ (.inr (.inl e)); omega)
    have q0 : W3.cell? ⟨C2, 0, none⟩ = some (.int .i64 s.lv) := S3.out.cell 0
    have q1 : W3.cell? ⟨C2, 1, none⟩ = some (.bool s.tr) := S3.out.cell 1
    clear hk hr0 hg3 hc3 hsz3 HG KG HC X2 B2
    by_cases ht : s.tr = true
    · have hbk := H.out.k.torn HAD.out (by rw [HS.out]; exact ht)
      rw [HS.out] at hbk
      have HBK := Lib.hid hbk
      have D0 : Hid (Dr1 w W3 G n (N + 2 * 0) A f (AK.ek a b) 0) := ⟨HW3.out.congr fun q _ => if_neg (Nat.not_lt_zero _), C3.out⟩
      clear hbk HW3 C3 XW
      go_wp2
      go_still_tail 5, (by kernel_rfl)
      go_wp2
      go_loopw [52] (fun v52 wr => ∃ j : Nat, j ≤ s.lv + 1 ∧ v52 = .int .i64 j ∧ Hid (Dr1 w wr G n (N + 2 * j) A f (AK.ek a b) j ∧ Chg G.S W3 wr)) (fun v52 _ => s.lv + 1 - (intOf v52).toNat)
      case atStart => exact ⟨0, Nat.zero_le _, rfl, D0.out, Chg.refl _ _⟩
      case round =>
        obtain ⟨j, hj, rfl, HR⟩ := hrel
        clear D0 q0 q1 hr c1 y0 y1
        by_cases hlt : j < s.lv + 1
        · obtain ⟨Fj, hFj⟩ := HR.out.1.g.get (show j < G.Fs.length by have := htop.out; omega)
          have HFJ := Lib.hid hFj
          have c2 : wr.cell? ⟨G.gb, 2, none⟩ = some (.slice (some ⟨G.ob, 0, none⟩) G.Fs.length G.c) := HR.out.1.g.blk.cell 2
          have c3 := HR.out.1.g.cellF hFj
          have p0 : (0 : Int) ≤ (j : Int) := by omega
          have p1 : (j : Int) < (G.Fs.length : Int) := by have := htop.out; omega
          have p2 : (j : Int) < (s.lv : Int) + 1 := by omega
          have hfj := HR.out.1.g.fo j Fj hFj
          rw [if_neg (Nat.lt_irrefl _)] at hfj
          have hadj : adj (GM.lvl f A j) a b := (H.out.k.lvl_ek HAB.out).2 ⟨HAD.out, by rw [HS.out]; exact ht, by rw [HS.out]; omega⟩
          have TL0 := tcut_ok hfj (by omega) a b hadj
          obtain ⟨F9, hF9⟩ : ∃ F9, Fj.fb = F9 := ⟨_, rfl⟩
          rw [hF9] at c3 TL0
          have TL := Lib.hid TL0
          clear TL0 hfj hFj hF9 hadj
          go_wp2_with fail
          refine TL.out.mono ?_
          rintro e w9 ⟨rfl, hf9, hc9⟩
          have HN : Hid (Dr1 w w9 G n (N + 2 * (j + 1)) A f (AK.ek a b) (j + 1) ∧ Chg G.S W3 w9) :=
            ⟨HR.out.1.next HFJ.out hf9 hc9, HR.out.2.step (hc9.mono fun k _ hk => .inr (.inr (.inr ⟨_, Fj, HFJ.out, hk⟩)))⟩
          clear hf9 hc9 TL HR
          go_wp2
          go_roundw
          case rel => exact ⟨j + 1, by omega, by go_num, HN⟩
          case measure => simp [intOf]; omega
        · obtain rfl : j = s.lv + 1 := by omega
          have p3 : ¬ (((s.lv + 1 : Nat) : Int) < (s.lv : Int) + 1) := by omega
          have S4 := S3.out.chg HR.out.2 (fun hk => by have := hC2.out _ hk; omega)
          have q0 : wr.cell? ⟨C2, 0, none⟩ = some (.int .i64 s.lv) := S4.cell 0
          have hd := HR.out.1
          rw [← HS.out] at hd
          have hd2 := hd.done H.out.few
          rw [HS.out] at hd2
          have Z0 : Hid (DrZ w wr G n (N + 10 + 700 * (s.lv - s.lv)) A (cutE (AK.ek a b) A) f a b (s.lv : Int)) :=
            ⟨G, f, ⟨hd2.g.mono (by omega), hd2.c, hd2.six, hd2.le, hd2.up⟩, .inl ⟨s.lv, rfl, htop.out, HBK.out⟩⟩
          clear S4 hd hd2 HR HBK S3 htop
          go_wp2
          go_loopw [12] (fun v12 wr => ∃ z : Int, -1 ≤ z ∧ z ≤ s.lv ∧ v12 = .int .i64 z ∧ Hid (DrZ w wr G n (N + 10 + 700 * (s.lv - z).toNat) A (cutE (AK.ek a b) A) f a b z)) (fun v12 _ => (intOf v12 + 1).toNat)
          case atStart => exact ⟨s.lv, by omega, by omega, rfl, by show DrZ _ _ _ _ _ _ _ _ _ _ _; simpa using Z0.out⟩
          case round =>
            obtain ⟨z, hz1, hz2, rfl, HZ⟩ := hrel
            clear Z0 q0
            by_cases hz : 0 ≤ z
            · obtain ⟨k, rfl⟩ := Int.eq_ofNat_of_zero_le hz
              have hcl : (cutE (AK.ek a b) A).length ≤ 200 := Nat.le_trans (List.length_filter_le _ _) hl
              obtain ⟨G', f', hd, hcase⟩ := HZ.out
              obtain ⟨hkl, hbk⟩ : k < G'.Fs.length ∧ GM.BOk n G'.Fs.length (cutE (AK.ek a b) A) f' a b k := by
                rcases hcase with ⟨k', e, h1, h2⟩ | ⟨e, _⟩
                · have : k' = k := by omega
                  subst this; exact ⟨h1, h2⟩
                · omega
              have HD := Lib.hid hd
              have HKL := Lib.hid hkl
              have hgb := hd.c.gb
              have MC0 := gmend_any hd.g hbk hkl (by omega) hd.six (by omega) (by omega) ha hb hcl
              rw [hgb] at MC0
              have MC := Lib.hid MC0
              clear MC0 hd hcase hkl hbk hgb HZ hcl
              go_wp2_with fail
              refine MC.out.mono ?_
              intro e w9 hp
              rcases HD.out.mended (by omega) HKL.out hp with ⟨rfl, G2, f2, g1, g2, g3⟩ | ⟨rfl, hz9⟩
              · have HP : Hid (GDropPost w G n N A f (AK.ek a b) (.returned .nilIface) w9) := ⟨G2, f2, rfl, g1.mono (by omega), g2, g3⟩
                clear hp g1 g2 g3 MC HD
                go_wp2
                go_ret
                exact HP.out
              · have HN : Hid (DrZ w w9 G n (N + 10 + 700 * (s.lv - ((k : Int) - 1)).toNat) A (cutE (AK.ek a b) A) f a b ((k : Int) - 1)) := by
                  have e : N + 10 + 700 * (s.lv - (k : Int)).toNat + 700 = N + 10 + 700 * (s.lv - ((k : Int) - 1)).toNat := by omega
                  rw [← e]; exact hz9
                clear hp hz9 MC HD
                go_wp2
                go_roundw
                case rel => exact ⟨(k : Int) - 1, by omega, by omega, rfl, HN⟩
                case measure => simp [intOf]
            · have HP : Hid (GDropPost w G n N A f (AK.ek a b) (.returned .nilIface) wr) := by
                obtain ⟨G', f', hd, hcase⟩ := HZ.out
                rcases hcase with ⟨k', e, h1, h2⟩ | ⟨e, hgk⟩
                · exact absurd (by omega : 0 ≤ z) hz
                · exact ⟨G', f', rfl, ⟨hd.g.mono (by omega), hgk, hd.six, by omega⟩, hd.c, hd.up⟩
              clear HZ
              go_wp2
              go_ret
              exact HP.out
    · have ht' : s.tr = false := by simpa using ht
      have HP : Hid (GDropPost w G n N A f (AK.ek a b) (.returned .nilIface) W3) := by
        have hf : (f (AK.ek a b)).tr = false := by rw [HS.out]; exact ht'
        exact ⟨G, f, rfl, ⟨(HW3.out.congr fun q _ => GM.cut_lvl hf q).mono (by omega), H.out.k.less hf, H.out.few, by omega⟩, GrC.same C3.out fun _ h => h, fun _ _ => Nat.le_refl _⟩
      clear HW3 C3 XW S3
      go_wp2
      go_still_tail 5, (by kernel_rfl)
      go_wp2
      go_ret
      exact HP.out
end
end Go.Proofs.Ytlcnoihmhaaekaa
