/-
  The beginning of bridge.walked: the walker is made. Conditions: the edges lie in memory as 'EdsAt' says, their nodes are nodes.
-/
import Derived.Test.YtakjakglkfhaaaaDoorWv
import Derived.Test.YtakjakglkfhaaaaDoorBs2
import Derived.Deep.RegionLaw
namespace Go.Proofs.YtakjakglkfhaaaaDoor
open Go Go.RowKit
set_option linter.unusedVariables false

theorem step_call {P : Program} {ops : Array Oper} {o : Oper} {a : Act} {w : World} {K : Act → World → Prop} {Q : Exit → Act → World → Prop} {E : Prop} {Post : Ending → World → Prop}
    (hg : o.guard = none) (f : Nat) (args : Array Operand) (tys : Array TypeId) (hop : o.op = .call { callee := .value (.func f), args := args, argTypes := tys }) (vs : Array Value) (hv : args.map a.eval = vs)
    (hcf : (callFunc f vs).run P w = .ok (.enter f vs) w) (hc : Calls P f vs w Post)
    (hK : ∀ e w', Post e w' → ∃ v, e = .returned v ∧ K (a.put o.dst v) w') :
    if Region.wanted o (yielded ops a.tmps) = true then Oper.wp P o a w K Q else E := by
  have hw : Region.wanted o (yielded ops a.tmps) = true := by simp [Region.wanted, hg]
  rw [if_pos hw]
  have hr : (execOp a.eval o).run P w = .ok (.enter f vs) w := by
    subst hv
    simp [execOp, hop, resolve, invoke, Act.eval, Deferred.ofValue, hcf]
  unfold Oper.wp
  rw [hr, Oper.upon_enter]
  refine hc.mono (fun e w' h => ?_)
  obtain ⟨v, rfl, h2⟩ := hK e w' h
  exact h2
theorem callsBeside : ∀ args w, (callFunc 51 args).run Tryd.prog w = .ok (.enter 51 args) w := enters_of Tryd.func51 (by kernel_rfl) rfl
/-- The walker, made. -/
structure WdSt (w w0 wr : World) (n : Nat) (l : List AK.Ed) (k : Wkr) (N : Nat → List Nat) (G cb B : Nat) : Prop where
  ext : Ext w w0
  vB : k.vB = .slice (some ⟨G, 0, none⟩) n cb
  bes : BesAt w0 G n N
  of_ : BesOf n l N
  inn : BesIn B w0 G n
  S : ∀ j, k.S j → j < B ∨ w0.heap.size ≤ j
  sS : ∀ j, k.S j → w.heap.size ≤ j
  at_ : WkAt w0 n k (.slice none 0 0) (.slice none 0 0) (DF.zero n) wr
def BesGot (W w1 : World) (n : Nat) (l : List AK.Ed) (G : Nat) (N : Nat → List Nat) : Prop := BesAt w1 G n N ∧ BesOf n l N ∧ Ext W w1 ∧ BesIn W.heap.size w1 G n
theorem own_zero {w : World} {g n : Nat} {cs : Array Value} (h : Blk w g 3 cs) (hcs : cs.toList = List.replicate n (.int .i64 0)) (hn : n ≤ 60) : w.ownsRow 0 3 1 (.slice (some ⟨g, 0, none⟩) n n) n (intsV (List.replicate n 0)) := by
  have hl : cs.size = n := by have := congrArg List.length hcs; simpa using this
  refine ⟨by simp [intsV], .inr ⟨g, n, cs, rfl, Nat.zero_le _, h, Nat.le_refl _, by unfold maxLen; omega, by omega, ?_⟩⟩
  rw [hcs]; simp [intsV]
theorem wd_start {w W w1 wf : World} {n G gw gl gp X cb : Nat} {N : Nat → List Nat} {l : List AK.Ed} {cs : Array Value} (hcs : cs.toList = List.replicate n (.int .i64 0)) (hn : n ≤ 60) (h : BesGot W w1 n l G N) (hxW : Ext w W) (hxf : Ext w1 wf) (hX : X = wf.heap.size) (bw : Blk wf gw 3 cs) (bl : Blk wf gl 3 cs) (bp : Blk wf gp 3 cs)
    (sw : w.heap.size ≤ gw ∧ (gw < W.heap.size ∨ w1.heap.size ≤ gw)) (sl : w.heap.size ≤ gl ∧ (gl < W.heap.size ∨ w1.heap.size ≤ gl)) (sp : w.heap.size ≤ gp ∧ (gp < W.heap.size ∨ w1.heap.size ≤ gp)) (d1 : gw ≠ gl) (d2 : gw ≠ gp) (d3 : gl ≠ gp) :
    WdSt w w1 (wf.alloc (.cells #[.slice (some ⟨G, 0, none⟩) n cb, .slice (some ⟨gw, 0, none⟩) n n, .slice (some ⟨gl, 0, none⟩) n n, .slice (some ⟨gp, 0, none⟩) n n, .int .i64 0, .slice none 0 0, .slice none 0 0] 82)) n l ⟨X, gw, gl, gp, .slice (some ⟨G, 0, none⟩) n cb⟩ N G cb W.heap.size := by
  subst hX
  obtain ⟨h1, h2, h3, h4⟩ := h
  refine ⟨Ext.trans hxW h3, rfl, h1, h2, h4, ?_, ?_, ?_⟩
  · rintro j (rfl | rfl | rfl)
    · exact sw.2
    · exact sl.2
    · exact sp.2
  · rintro j (rfl | rfl | rfl)
    · exact sw.1
    · exact sl.1
    · exact sp.1
  · exact { blk := Blk.new _ _ _, wh := own_zero (bw.alloc _) hcs hn, lo := own_zero (bl.alloc _) hcs hn, pa := own_zero (bp.alloc _) hcs hn, ed := World.ownsRow_nil _ _ _ _, jo := World.ownsRow_nil _ _ _ _, d1 := d1, d2 := d2, d3 := d3, j1 := by simp [Value.ownBlock], j2 := by simp [Value.ownBlock], j3 := by simp [Value.ownBlock], nE := fun x hx => by simp [Value.ownBlock] at hx, nJ := fun x hx => by simp [Value.ownBlock] at hx, nW := hxf.size, chg := (Chg.new (Ext.trans hxf (Ext.alloc _ _)) _) }
theorem Blk.new_ {w : World} {g : Nat} {t : TypeId} {cs : Array Value} (h : g = w.heap.size) : Blk (w.alloc (.cells cs t)) g t cs := by subst h; exact Blk.new _ _ _
theorem World.size_drew_ (w : World) : w.drew.heap.size = w.heap.size := rfl
theorem World.size_alloc_ (w : World) (o : Obj) : (w.alloc o).heap.size = w.heap.size + 1 := by simp
theorem blk_on {w w1 : World} {g : Nat} {t : TypeId} {cs : Array Value} (h : Blk w g t cs) (hx : Ext w w1) : Blk w1 g t cs := h.chg (Chg.of_below hx) (by have := h.lt; omega)
def wkV (G gw gl gp n cb : Nat) : Array Value := #[.slice (some ⟨G, 0, none⟩) n cb, .slice (some ⟨gw, 0, none⟩) n n, .slice (some ⟨gl, 0, none⟩) n n, .slice (some ⟨gp, 0, none⟩) n n, .int .i64 0, .slice none 0 0, .slice none 0 0]
section
variable {w W w1 wf : World} {n G : Nat} {N : Nat → List Nat} {l : List AK.Ed} {cs : Array Value} {p0 p1 p2 X : Nat}
theorem wd_perm (hcs : cs.toList = List.replicate n (.int .i64 0)) (hn : n ≤ 60) (h : BesGot W w1 n l G N) (hxW : Ext w W) (hxf : Ext w1 wf) (hX : X = wf.heap.size)
    (h0 : Blk wf p0 3 cs ∧ w.heap.size ≤ p0 ∧ (p0 < W.heap.size ∨ w1.heap.size ≤ p0)) (h1 : Blk wf p1 3 cs ∧ w.heap.size ≤ p1 ∧ (p1 < W.heap.size ∨ w1.heap.size ≤ p1)) (h2 : Blk wf p2 3 cs ∧ w.heap.size ≤ p2 ∧ (p2 < W.heap.size ∨ w1.heap.size ≤ p2))
    (cb x y z : Nat) (hx : x = p0 ∨ x = p1 ∨ x = p2) (hy : y = p0 ∨ y = p1 ∨ y = p2) (hz : z = p0 ∨ z = p1 ∨ z = p2) (d1 : x ≠ y) (d2 : x ≠ z) (d3 : y ≠ z) :
    WdSt w w1 (wf.alloc (.cells (wkV G x y z n cb) 82)) n l ⟨X, x, y, z, .slice (some ⟨G, 0, none⟩) n cb⟩ N G cb W.heap.size := by
  have key : ∀ x, (x = p0 ∨ x = p1 ∨ x = p2) → Blk wf x 3 cs ∧ w.heap.size ≤ x ∧ (x < W.heap.size ∨ w1.heap.size ≤ x) := by
    rintro x (rfl | rfl | rfl)
    · exact h0
    · exact h1
    · exact h2
  exact wd_start hcs hn h hxW hxf hX (key x hx).1 (key y hy).1 (key z hz).1 (key x hx).2 (key y hy).2 (key z hz).2 d1 d2 d3
theorem wd_0 (hcs : cs.toList = List.replicate n (.int .i64 0)) (hn : n ≤ 60) (h : BesGot w.drew w1 n l G N) : ∀ (cb x y z : Nat), (x = w1.heap.size ∨ x = w1.heap.size + 1 ∨ x = w1.heap.size + 1 + 1) → (y = w1.heap.size ∨ y = w1.heap.size + 1 ∨ y = w1.heap.size + 1 + 1) → (z = w1.heap.size ∨ z = w1.heap.size + 1 ∨ z = w1.heap.size + 1 + 1) → x ≠ y → x ≠ z → y ≠ z →
    WdSt w w1 ((((w1.alloc (.cells cs 3)).alloc (.cells cs 3)).alloc (.cells cs 3)).alloc (.cells (wkV G x y z n cb) 82)) n l ⟨w1.heap.size + 1 + 1 + 1, x, y, z, .slice (some ⟨G, 0, none⟩) n cb⟩ N G cb w.drew.heap.size := by
  have hs : w.heap.size ≤ w1.heap.size := h.2.2.1.size
  refine wd_perm hcs hn h (Ext.drew _) (Ext.trans (Ext.trans (Ext.alloc _ _) (Ext.alloc _ _)) (Ext.alloc _ _)) (by simp) ⟨((Blk.new _ _ _).alloc _).alloc _, by omega, .inr (by omega)⟩ ⟨(Blk.new_ (by simp)).alloc _, by omega, .inr (by omega)⟩ ⟨Blk.new_ (by simp), by omega, .inr (by omega)⟩
theorem wd_1 (hcs : cs.toList = List.replicate n (.int .i64 0)) (hn : n ≤ 60) (h : BesGot (w.alloc (.cells cs 3)).drew w1 n l G N) : ∀ (cb x y z : Nat), (x = w.heap.size ∨ x = w1.heap.size ∨ x = w1.heap.size + 1) → (y = w.heap.size ∨ y = w1.heap.size ∨ y = w1.heap.size + 1) → (z = w.heap.size ∨ z = w1.heap.size ∨ z = w1.heap.size + 1) → x ≠ y → x ≠ z → y ≠ z →
    WdSt w w1 (((w1.alloc (.cells cs 3)).alloc (.cells cs 3)).alloc (.cells (wkV G x y z n cb) 82)) n l ⟨w1.heap.size + 1 + 1, x, y, z, .slice (some ⟨G, 0, none⟩) n cb⟩ N G cb (w.alloc (.cells cs 3)).drew.heap.size := by
  have hs : w.heap.size + 1 ≤ w1.heap.size := by have := h.2.2.1.size; rw [World.size_drew_, World.size_alloc_] at this; exact this
  have hW : (w.alloc (.cells cs 3)).drew.heap.size = w.heap.size + 1 := by rw [World.size_drew_, World.size_alloc_]
  refine wd_perm hcs hn h (Ext.trans (Ext.alloc _ _) (Ext.drew _)) (Ext.trans (Ext.alloc _ _) (Ext.alloc _ _)) (by simp) ⟨((blk_on ((Blk.new w 3 cs).drew) h.2.2.1).alloc _).alloc _, by omega, .inl (by omega)⟩ ⟨(Blk.new _ _ _).alloc _, by omega, .inr (by omega)⟩ ⟨Blk.new_ (by simp), by omega, .inr (by omega)⟩
theorem wd_2 (hcs : cs.toList = List.replicate n (.int .i64 0)) (hn : n ≤ 60) (h : BesGot ((w.alloc (.cells cs 3)).alloc (.cells cs 3)).drew w1 n l G N) : ∀ (cb x y z : Nat), (x = w.heap.size ∨ x = w.heap.size + 1 ∨ x = w1.heap.size) → (y = w.heap.size ∨ y = w.heap.size + 1 ∨ y = w1.heap.size) → (z = w.heap.size ∨ z = w.heap.size + 1 ∨ z = w1.heap.size) → x ≠ y → x ≠ z → y ≠ z →
    WdSt w w1 ((w1.alloc (.cells cs 3)).alloc (.cells (wkV G x y z n cb) 82)) n l ⟨w1.heap.size + 1, x, y, z, .slice (some ⟨G, 0, none⟩) n cb⟩ N G cb ((w.alloc (.cells cs 3)).alloc (.cells cs 3)).drew.heap.size := by
  have hW : ((w.alloc (.cells cs 3)).alloc (.cells cs 3)).drew.heap.size = w.heap.size + 1 + 1 := by rw [World.size_drew_, World.size_alloc_, World.size_alloc_]
  have hs : w.heap.size + 1 + 1 ≤ w1.heap.size := by have := h.2.2.1.size; rw [hW] at this; exact this
  refine wd_perm hcs hn h (Ext.trans (Ext.trans (Ext.alloc _ _) (Ext.alloc _ _)) (Ext.drew _)) (Ext.alloc _ _) (by simp) ⟨(blk_on (((Blk.new w 3 cs).alloc _).drew) h.2.2.1).alloc _, by omega, .inl (by omega)⟩ ⟨(blk_on ((Blk.new_ (by simp)).drew) h.2.2.1).alloc _, by omega, .inl (by omega)⟩ ⟨Blk.new _ _ _, by omega, .inr (by omega)⟩
theorem wd_3 (hcs : cs.toList = List.replicate n (.int .i64 0)) (hn : n ≤ 60) (h : BesGot (((w.alloc (.cells cs 3)).alloc (.cells cs 3)).alloc (.cells cs 3)).drew w1 n l G N) : ∀ (cb x y z : Nat), (x = w.heap.size ∨ x = w.heap.size + 1 ∨ x = w.heap.size + 1 + 1) → (y = w.heap.size ∨ y = w.heap.size + 1 ∨ y = w.heap.size + 1 + 1) → (z = w.heap.size ∨ z = w.heap.size + 1 ∨ z = w.heap.size + 1 + 1) → x ≠ y → x ≠ z → y ≠ z →
    WdSt w w1 (w1.alloc (.cells (wkV G x y z n cb) 82)) n l ⟨w1.heap.size, x, y, z, .slice (some ⟨G, 0, none⟩) n cb⟩ N G cb (((w.alloc (.cells cs 3)).alloc (.cells cs 3)).alloc (.cells cs 3)).drew.heap.size := by
  have hW : (((w.alloc (.cells cs 3)).alloc (.cells cs 3)).alloc (.cells cs 3)).drew.heap.size = w.heap.size + 1 + 1 + 1 := by rw [World.size_drew_, World.size_alloc_, World.size_alloc_, World.size_alloc_]
  have hs : w.heap.size + 1 + 1 + 1 ≤ w1.heap.size := by have := h.2.2.1.size; rw [hW] at this; exact this
  refine wd_perm hcs hn h (Ext.trans (Ext.trans (Ext.trans (Ext.alloc _ _) (Ext.alloc _ _)) (Ext.alloc _ _)) (Ext.drew _)) (Ext.refl _) rfl ⟨blk_on ((((Blk.new w 3 cs).alloc _).alloc _).drew) h.2.2.1, by omega, .inl (by omega)⟩ ⟨blk_on (((Blk.new_ (by simp)).alloc _).drew) h.2.2.1, by omega, .inl (by omega)⟩ ⟨blk_on ((Blk.new_ (by simp)).drew) h.2.2.1, by omega, .inl (by omega)⟩
end
noncomputable def wd1 : Code := dFst (dSnd (dBody Tryd.f45))
set_option maxHeartbeats 4000000 in
set_option maxRecDepth 100000 in
theorem wd1_any {w : World} {n m c : Nat} {A : Option Addr} {l : List AK.Ed} (H : Hid (EdsAt w A l)) (HL : Hid (l.length = m)) (HF : Hid (Fine n l)) (hn0 : 0 < n) (hn : n ≤ 60) (F : Func) (K : Act → World → Prop) (Post : Ending → World → Prop) {u2 u3 u4 u5 u6 u7 u8 u9 u10 u11 u12 u13 u14 u15 u16 u17 u18 u19 u20 u21 u22 u23 u24 u25 u26 u27 u28 u29 u30 u31 u32 u33 u34 u35 u36 : Value}
    (hK : ∀ (v7 v8 v9 v10 v11 v12 v13 v14 v15 v16 v17 : Value) (w0 wr : World) (kk : Wkr) (N : Nat → List Nat) (G cb B : Nat), WdSt w w0 wr n l kk N G cb B → (Exit.then K (bodyPost Tryd.prog F Post)) .normal ⟨List.toArray (.int .i64 (n : Int) :: .slice A m c :: u2 :: u3 :: u4 :: .pointer (some ⟨kk.W, 0, none⟩) :: u6 :: v7 :: v8 :: v9 :: v10 :: v11 :: v12 :: v13 :: v14 :: v15 :: v16 :: v17 :: u18 :: u19 :: u20 :: u21 :: u22 :: u23 :: u24 :: u25 :: u26 :: u27 :: u28 :: u29 :: u30 :: u31 :: u32 :: u33 :: u34 :: u35 :: u36 :: []), []⟩ wr) :
    Code.wp Tryd.prog wd1 (Exit.then K (bodyPost Tryd.prog F Post)) ⟨List.toArray (.int .i64 (n : Int) :: .slice A m c :: u2 :: u3 :: u4 :: u5 :: u6 :: u7 :: u8 :: u9 :: u10 :: u11 :: u12 :: u13 :: u14 :: u15 :: u16 :: u17 :: u18 :: u19 :: u20 :: u21 :: u22 :: u23 :: u24 :: u25 :: u26 :: u27 :: u28 :: u29 :: u30 :: u31 :: u32 :: u33 :: u34 :: u35 :: u36 :: []), []⟩ w := by
  obtain ⟨cs, hcs, hmk⟩ := run_ints n (by omega)
  have HK := Lib.hid hK
  have HCS := Lib.hid hcs
  clear hK hcs
  simp only [wd1, dBody, dFst, dSnd, Tryd.f45]
  go_region_law (first
    | (refine step_call (by rfl) 51 #[.tmp 7, .tmp 8] #[3, 22] (by rfl) #[.int .i64 (n : Int), .slice A m c] (by kernel_rfl) (callsBeside _ _) (beside_in _ n A m c l HL.out (H.out.ext (show Ext w _ from by repeat (first | exact Ext.refl _ | refine Ext.trans ?_ (Ext.alloc _ _) | refine Ext.trans ?_ (Ext.drew _)))) HF.out hn0 hn) ?_; rintro e w1 ⟨G, cb, N, rfl, hb1, hb2, _, hb3, hb4⟩; refine ⟨_, rfl, ?_⟩; have HG := Lib.hid (show BesGot _ w1 n l G N from ⟨hb1, hb2, hb3, hb4⟩); clear hb1 hb2 hb3 hb4))
  all_goals
    refine HK.out _ _ _ _ _ _ _ _ _ _ _ w1 _ ⟨_, ?_, ?_, ?_, ?_⟩ N G cb ?_ ?_
    rotate_left 5
    first
    | refine wd_0 HCS.out hn HG.out cb _ _ _ ?_ ?_ ?_ ?_ ?_ ?_
    | refine wd_1 HCS.out hn HG.out cb _ _ _ ?_ ?_ ?_ ?_ ?_ ?_
    | refine wd_2 HCS.out hn HG.out cb _ _ _ ?_ ?_ ?_ ?_ ?_ ?_
    | refine wd_3 HCS.out hn HG.out cb _ _ _ ?_ ?_ ?_ ?_ ?_ ?_
  all_goals
    have hz := HG.out.2.2.1.size
    simp only [World.size_drew_, World.size_alloc_] at hz
    omega
end Go.Proofs.YtakjakglkfhaaaaDoor
