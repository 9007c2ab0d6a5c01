/-
  The references' disk: NewDisk. Condition: 0 < n ≤ 80.
-/
import Derived.Test.YtenjblonepegfaaDoorRd3
import Derived.Deep.RegionLaw
namespace Go.Proofs.YtenjblonepegfaaDoor
open Go Go.RowKit
set_option linter.unusedVariables false

/-- A call of a Go function, as one step of a region that draws. -/
theorem step_call {P : Program} {ops : Array Oper} {o : Oper} {a : Act} {w : World} {K : Act → World → Prop} {Q : Exit → Act → World → Prop} {E : Prop} {Post : Ending → World → Prop}
    (hg : o.guard = none) (f : Nat) (args : Array Operand) (tys : Array TypeId) (hop : o.op = .call { callee := .value (.func f), args := args, argTypes := tys }) (vs : Array Value) (hv : args.map a.eval = vs)
    (hcf : (callFunc f vs).run P w = .ok (.enter f vs) w) (hc : Calls P f vs w Post)
    (hK : ∀ e w', Post e w' → ∃ v, e = .returned v ∧ K (a.put o.dst v) w') :
    if Region.wanted o (yielded ops a.tmps) = true then Oper.wp P o a w K Q else E := by
  have hw : Region.wanted o (yielded ops a.tmps) = true := by simp [Region.wanted, hg]
  rw [if_pos hw]
  have hr : (execOp a.eval o).run P w = .ok (.enter f vs) w := by
    subst hv
    simp [execOp, hop, resolve, invoke, Act.eval, Deferred.ofValue, hcf]
  unfold Oper.wp
  rw [hr, Oper.upon_enter]
  refine hc.mono (fun e w' h => ?_)
  obtain ⟨v, rfl, h2⟩ := hK e w' h
  exact h2
theorem callsBlank (w : World) : (callFunc 61 #[]).run Tryd.prog w = .ok (.enter 61 #[]) w := by
  have h1 : (Tryd.f61.name == "runtime.NumGoroutine") = false := by kernel_rfl
  have h2 : Tryd.f61.body.isNone = false := by kernel_rfl
  have h3 : ¬ Tryd.f61.body = none := by intro h; rw [h] at h2; cases h2
  have h4 : ¬ Tryd.f61.name = "runtime.NumGoroutine" := by simpa using h1
  simp [callFunc, Tryd.func61, h3, h4]
structure NR (w wr : World) (G : Nat) (kv nv : Value) (k m : Nat) (K N : List PR) : Prop where
  bel : Below w.heap.size w wr
  hG : w.heap.size ≤ G
  blk : Blk wr G 46 #[kv, nv, .slice none 0 0, .int .i64 (-1), .bool false]
  rk : wr.ownsRow 0 33 1 kv k (K.map pv)
  rn : wr.ownsRow 0 33 1 nv m (N.map pv)
  ne : ∀ a, kv.ownBlock = some a → nv.ownBlock ≠ some a
  ok_ : ∀ a, kv.ownBlock = some a → w.heap.size ≤ a
  on_ : ∀ a, nv.ownBlock = some a → w.heap.size ≤ a
  pk : ∀ x ∈ K, POk wr x ∧ x.p = DK.zero
  pn : ∀ x ∈ N, POk wr x ∧ x.p = DK.zero
section
variable {w wr w1 w2 : World} {G : Nat} {kv nv : Value} {k m : Nat} {K N : List PR}
theorem NR.zero (w : World) : NR w (w.alloc (.cells #[.slice none 0 0, .slice none 0 0, .slice none 0 0, .int .i64 (-1), .bool false] 46)) w.heap.size (.slice none 0 0) (.slice none 0 0) 0 0 [] [] :=
  ⟨(Below.refl _ _).alloc (Nat.le_refl _) _, Nat.le_refl _, Blk.new _ _ _, World.ownsRow_nil _ _ _ _, World.ownsRow_nil _ _ _ _, fun a h => by simp [Value.ownBlock] at h, fun a h => by simp [Value.ownBlock] at h, fun a h => by simp [Value.ownBlock] at h, fun x h => (by cases h), fun x h => (by cases h)⟩
theorem NR.ext (h : NR w wr G kv nv k m K N) (hb : Below wr.heap.size wr w1) : NR w w1 G kv nv k m K N :=
  ⟨h.bel.trans (hb.mono h.bel.size), h.hG, h.blk.chg (Chg.of_below hb) (by have := h.blk.lt; omega), own_chg h.rk (Chg.of_below hb) (fun k hk => by have := own_lt h.rk hk; omega), own_chg h.rn (Chg.of_below hb) (fun k hk => by have := own_lt h.rn hk; omega), h.ne, h.ok_, h.on_, fun x hx => ⟨(h.pk x hx).1.ext hb, (h.pk x hx).2⟩, fun x hx => ⟨(h.pn x hx).1.ext hb, (h.pn x hx).2⟩⟩
theorem NR.push1 {b g c : Nat} {o : Obj} (h : NR w w1 G kv nv k m K N) (hb : Blk w1 b 5 (DK.pgv DK.zero).toArray)
    (ho : w2.ownsRow 0 33 1 (.slice (some ⟨g, 0, none⟩) (k + 1) c) (k + 1) (K.map pv ++ [.slice (some ⟨b, 0, none⟩) 32 32])) (hc : Chg (fun a => kv.ownBlock = some a) (w1.alloc o) w2) (hat : kv.ownBlock = some g ∨ g = (w1.alloc o).heap.size) :
    Blk w2 G 46 #[kv, nv, .slice none 0 0, .int .i64 (-1), .bool false] ∧ NR w (w2.setCell ⟨G, 0, none⟩ (.slice (some ⟨g, 0, none⟩) (k + 1) c)) G (.slice (some ⟨g, 0, none⟩) (k + 1) c) nv (k + 1) m (K ++ [⟨b, 32, DK.zero⟩]) N := by
  have h1 := h.ext (((Below.refl _ w1).alloc (Nat.le_refl _) o))
  have hb1 := hb.alloc o
  have n1 : kv.ownBlock ≠ some G := own_ne h1.rk h1.blk (by decide)
  have n2 : nv.ownBlock ≠ some G := own_ne h1.rn h1.blk (by decide)
  have hp1 : ∀ a, kv.ownBlock = some a → ∀ cs, ¬ Blk (w1.alloc o) a 5 cs := fun a ha cs hbk => own_ne h1.rk hbk (by decide) ha
  have hB := h1.blk.chg hc n1
  have hgG : g ≠ G := by have := own_ne ho hB (by decide); simpa [Value.ownBlock] using this
  have hc4 := chg_cell w2 G 0 (.slice (some ⟨g, 0, none⟩) (k + 1) c)
  have hp2 : ∀ a, a = G → ∀ cs, ¬ Blk w2 a 5 cs := fun a ha cs hbk => by subst ha; exact Blk.ne_ hB hbk (by decide) rfl
  have hz := h1.bel.size
  have lt1 : ∀ a, nv.ownBlock = some a → a < (w1.alloc o).heap.size := fun a ha => own_lt h1.rn ha
  have pp : ∀ x, POk (w1.alloc o) x → POk (w2.setCell ⟨G, 0, none⟩ (.slice (some ⟨g, 0, none⟩) (k + 1) c)) x := fun x hx => (hx.chg hc hp1).chg hc4 hp2
  refine ⟨hB, ⟨?_, h.hG, by simpa using hB.set_ 0 (.slice (some ⟨g, 0, none⟩) (k + 1) c), ?_, ?_, ?_, ?_, h.on_, ?_, fun x hx => ⟨pp x (h1.pn x hx).1, (h1.pn x hx).2⟩⟩⟩
  · exact (((Chg.of_below h1.bel).trans hc (fun a _ ha => h1.ok_ a ha)).setCell (p := ⟨G, 0, none⟩) (fun _ => h.hG) _).below (Nat.le_refl _) (fun _ _ h => h)
  · have := own_far ho (p := ⟨G, 0, none⟩) (by simp [Value.ownBlock]; exact hgG) (.slice (some ⟨g, 0, none⟩) (k + 1) c)
    simpa [pv] using this
  · exact own_far (own_chg h1.rn hc (fun a ha ha2 => h.ne a ha2 ha)) n2 _
  · intro a ha hn
    simp [Value.ownBlock] at ha; subst ha
    rcases hat with e | e
    · exact h.ne _ e hn
    · have := lt1 _ hn; omega
  · intro a ha
    simp [Value.ownBlock] at ha; subst ha
    rcases hat with e | e
    · exact h.ok_ _ e
    · omega
  · intro x hx
    rcases List.mem_append.1 hx with hx | hx
    · exact ⟨pp x (h1.pk x hx).1, (h1.pk x hx).2⟩
    · simp at hx; subst hx; exact ⟨pp _ (POk.of_blk hb1 rfl), rfl⟩
theorem NR.push2 {b g c : Nat} {o : Obj} (h : NR w w1 G kv nv k m K N) (hb : Blk w1 b 5 (DK.pgv DK.zero).toArray)
    (ho : w2.ownsRow 0 33 1 (.slice (some ⟨g, 0, none⟩) (m + 1) c) (m + 1) (N.map pv ++ [.slice (some ⟨b, 0, none⟩) 32 32])) (hc : Chg (fun a => nv.ownBlock = some a) (w1.alloc o) w2) (hat : nv.ownBlock = some g ∨ g = (w1.alloc o).heap.size) :
    Blk w2 G 46 #[kv, nv, .slice none 0 0, .int .i64 (-1), .bool false] ∧ NR w (w2.setCell ⟨G, 1, none⟩ (.slice (some ⟨g, 0, none⟩) (m + 1) c)) G kv (.slice (some ⟨g, 0, none⟩) (m + 1) c) k (m + 1) K (N ++ [⟨b, 32, DK.zero⟩]) := by
  have h1 := h.ext (((Below.refl _ w1).alloc (Nat.le_refl _) o))
  have hb1 := hb.alloc o
  have n1 : kv.ownBlock ≠ some G := own_ne h1.rk h1.blk (by decide)
  have n2 : nv.ownBlock ≠ some G := own_ne h1.rn h1.blk (by decide)
  have hp1 : ∀ a, nv.ownBlock = some a → ∀ cs, ¬ Blk (w1.alloc o) a 5 cs := fun a ha cs hbk => own_ne h1.rn hbk (by decide) ha
  have hB := h1.blk.chg hc n2
  have hgG : g ≠ G := by have := own_ne ho hB (by decide); simpa [Value.ownBlock] using this
  have hc4 := chg_cell w2 G 1 (.slice (some ⟨g, 0, none⟩) (m + 1) c)
  have hp2 : ∀ a, a = G → ∀ cs, ¬ Blk w2 a 5 cs := fun a ha cs hbk => by subst ha; exact Blk.ne_ hB hbk (by decide) rfl
  have hz := h1.bel.size
  have lt1 : ∀ a, kv.ownBlock = some a → a < (w1.alloc o).heap.size := fun a ha => own_lt h1.rk ha
  have pp : ∀ x, POk (w1.alloc o) x → POk (w2.setCell ⟨G, 1, none⟩ (.slice (some ⟨g, 0, none⟩) (m + 1) c)) x := fun x hx => (hx.chg hc hp1).chg hc4 hp2
  refine ⟨hB, ⟨?_, h.hG, by simpa using hB.set_ 1 (.slice (some ⟨g, 0, none⟩) (m + 1) c), ?_, ?_, ?_, h.ok_, ?_, fun x hx => ⟨pp x (h1.pk x hx).1, (h1.pk x hx).2⟩, ?_⟩⟩
  · exact (((Chg.of_below h1.bel).trans hc (fun a _ ha => h1.on_ a ha)).setCell (p := ⟨G, 1, none⟩) (fun _ => h.hG) _).below (Nat.le_refl _) (fun _ _ h => h)
  · exact own_far (own_chg h1.rk hc (fun a ha ha2 => h.ne a ha ha2)) n1 _
  · have := own_far ho (p := ⟨G, 1, none⟩) (by simp [Value.ownBlock]; exact hgG) (.slice (some ⟨g, 0, none⟩) (m + 1) c)
    simpa [pv] using this
  · intro a hn ha
    simp [Value.ownBlock] at ha; subst ha
    rcases hat with e | e
    · exact h.ne _ hn e
    · have := lt1 _ hn; omega
  · intro a ha
    simp [Value.ownBlock] at ha; subst ha
    rcases hat with e | e
    · exact h.on_ _ e
    · omega
  · intro x hx
    rcases List.mem_append.1 hx with hx | hx
    · exact ⟨pp x (h1.pn x hx).1, (h1.pn x hx).2⟩
    · simp at hx; subst hx; exact ⟨pp _ (POk.of_blk hb1 rfl), rfl⟩
end
def NRel (w : World) (G k : Nat) (wr : World) : Prop := ∃ (kv nv : Value) (K N : List PR), NR w wr G kv nv k k K N
def freshD (n : Nat) : DK.D := ⟨List.replicate n DK.zero, List.replicate n DK.zero, [], -1, false⟩
def RNew (w : World) (n : Nat) (e : Ending) (w' : World) : Prop := ∃ r : RD, e = .returned (.pointer (some ⟨r.g, 0, none⟩)) ∧ RAt w' r n (freshD n) ∧ Ext w w' ∧ ∀ k, r.fp k → w.heap.size ≤ k
theorem pgs_zero {K : List PR} {n : Nat} (hl : K.length = n) (h : ∀ x ∈ K, x.p = DK.zero) : pgs K = List.replicate n DK.zero := by
  subst hl
  induction K with
  | nil => rfl
  | cons x K ih => simp only [pgs, List.map_cons, List.length_cons, List.replicate_succ]; rw [h x (by simp)]; congr 1; exact ih (fun y hy => h y (by simp [hy]))
theorem new_end {w wr : World} {G n : Nat} (h1 : 0 < n) (h2 : n ≤ 80) (h : NRel w G n wr) : RNew w n (.returned (.pointer (some ⟨G, 0, none⟩))) wr := by
  obtain ⟨kv, nv, K, N, h⟩ := h
  obtain ⟨A, c, rfl, _⟩ := own_slice3 h.rk
  obtain ⟨A2, c2, rfl, _⟩ := own_slice3 h.rn
  obtain ⟨gk, rfl⟩ := own_at h.rk h1
  obtain ⟨gn, rfl⟩ := own_at h.rn h1
  have lk : K.length = n := by have := h.rk.1; simpa using this
  have ln : N.length = n := by have := h.rn.1; simpa using this
  have z : ∀ p ∈ List.replicate n DK.zero, p.length = 32 := fun p hp => by rw [(List.mem_replicate.1 hp).2]; rfl
  refine ⟨⟨G, gk, c, gn, c2, .slice none 0 0, K, N, []⟩, rfl, ⟨⟨by simp [freshD], by simp [freshD], z, z, fun x hx => by simp [freshD] at hx, by simp [freshD]⟩, h1, h2, h.blk, h.rk, h.rn, World.ownsRow_nil _ _ _ _, ?_, pgs_zero lk (fun x hx => (h.pk x hx).2), pgs_zero ln (fun x hx => (h.pn x hx).2), rfl, fun x hx => (h.pk x hx).1, fun x hx => (h.pn x hx).1, fun x hx => by cases hx⟩, h.bel, ?_⟩
  · intro e; simp only at e; subst e; exact h.ne _ (by simp [Value.ownBlock]; rfl) (by simp [Value.ownBlock])
  · rintro k (hk | hk | hk | hk)
    · simp only at hk; subst hk; exact h.hG
    · simp only at hk; subst hk; exact h.ok_ _ (by simp [Value.ownBlock])
    · simp only at hk; subst hk; exact h.on_ _ (by simp [Value.ownBlock])
    · simp [Value.ownBlock] at hk
end Go.Proofs.YtenjblonepegfaaDoor
