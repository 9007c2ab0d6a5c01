/-
  The references' disk: how it lies; a blank page, a step; disk.Fail, disk.Pages. Conditions: the disks lie as 'RAt', 'DAt' say.
-/
import Derived.Test.YtenjblonepegfaaDoorDk8
import Derived.Test.YtenjblonepegfaaDoorMem3
namespace Go.Proofs.YtenjblonepegfaaDoor
open Go Go.RowKit
set_option linter.unusedVariables false

/-- A page of the references': its block, its room, its bytes. -/
structure PR where
  b : Nat
  c : Nat
  p : DK.Pg
instance : Inhabited PR := ⟨⟨0, 0, []⟩⟩
def pv (x : PR) : Value := .slice (some ⟨x.b, 0, none⟩) 32 x.c
def POk (w : World) (x : PR) : Prop := w.ownsRow 0 5 1 (pv x) 32 (DK.pgv x.p)
theorem blk_of_own2 {w : World} {base : Nat} {e : TypeId} {size n m c : Nat} {x : Addr} {xs : List Value} (h : w.ownsRow base e size (.slice (some x) n c) m xs) : ∃ cs, Blk w x.block e cs := by
  rcases h.2 with ⟨h0, _⟩ | ⟨g, cap, cur, h0, _, hg, _⟩
  · simp at h0
  · simp at h0; obtain ⟨rfl, _⟩ := h0; exact ⟨cur, hg⟩
theorem POk.chg {S : Nat → Prop} {w w' : World} {x : PR} (h : POk w x) (hc : Chg S w w') (hp : ∀ k, S k → ∀ cs, ¬ Blk w k 5 cs) : POk w' x :=
  own_chg h hc (fun k hk hs => by
    obtain ⟨cs, hb⟩ := blk_of_own2 h
    simp [pv, Value.ownBlock] at hk; subst hk
    exact hp _ hs cs hb)
theorem POk.ext {w w' : World} {x : PR} (h : POk w x) (hb : Below w.heap.size w w') : POk w' x := own_chg h (Chg.of_below hb) (fun k hk => by have := own_lt h hk; omega)
def wC (x : Nat × PR) : List Value := [.int .i64 (x.1 : Nat), pv x.2]
theorem wC_len (x : Nat × PR) : (wC x).length = 2 := rfl
structure RD where
  g : Nat
  gk : Nat
  ck : Nat
  gn : Nat
  cn : Nat
  wv : Value
  K : List PR
  N : List PR
  W : List (Nat × PR)
def RD.fp (r : RD) (k : Nat) : Prop := k = r.g ∨ k = r.gk ∨ k = r.gn ∨ r.wv.ownBlock = some k
def pgs (K : List PR) : List DK.Pg := K.map PR.p
structure RAt (w : World) (r : RD) (n : Nat) (d : DK.D) : Prop where
  ok : DK.Ok n d
  pos : 0 < n
  le : n ≤ 80
  blk : Blk w r.g 46 #[.slice (some ⟨r.gk, 0, none⟩) n r.ck, .slice (some ⟨r.gn, 0, none⟩) n r.cn, r.wv, .int .i64 d.left, .bool d.down]
  rk : w.ownsRow 0 33 1 (.slice (some ⟨r.gk, 0, none⟩) n r.ck) n (r.K.map pv)
  rn : w.ownsRow 0 33 1 (.slice (some ⟨r.gn, 0, none⟩) n r.cn) n (r.N.map pv)
  rw : w.ownsRow 0 122 2 r.wv d.ws.length (rowsOf wC r.W)
  n1 : r.gk ≠ r.gn
  hk : pgs r.K = d.kept
  hn : pgs r.N = d.now
  hw : r.W.map (fun x => (x.1, x.2.p)) = d.ws
  pk : ∀ x ∈ r.K, POk w x
  pn : ∀ x ∈ r.N, POk w x
  pw : ∀ x ∈ r.W, POk w x.2
section
variable {w w' : World} {r : RD} {n : Nat} {d : DK.D} {S : Nat → Prop}
theorem RAt.ggk (h : RAt w r n d) : r.gk ≠ r.g := by have := own_ne h.rk h.blk (by decide); simpa [Value.ownBlock] using this
theorem RAt.ggn (h : RAt w r n d) : r.gn ≠ r.g := by have := own_ne h.rn h.blk (by decide); simpa [Value.ownBlock] using this
theorem RAt.ggw (h : RAt w r n d) : r.wv.ownBlock ≠ some r.g := own_ne h.rw h.blk (by decide)
theorem RAt.gwk (h : RAt w r n d) : r.wv.ownBlock ≠ some r.gk := own_neq h.rk h.rw (by decide) rfl
theorem RAt.gwn (h : RAt w r n d) : r.wv.ownBlock ≠ some r.gn := own_neq h.rn h.rw (by decide) rfl
theorem RAt.lt (h : RAt w r n d) {k : Nat} (hk : r.fp k) : k < w.heap.size := by
  rcases hk with rfl | rfl | rfl | hk
  · exact h.blk.lt
  · exact own_lt h.rk (by simp [Value.ownBlock])
  · exact own_lt h.rn (by simp [Value.ownBlock])
  · exact own_lt h.rw hk
/-- The disk's own blocks are no pages. -/
theorem RAt.nopage (h : RAt w r n d) {k : Nat} (hk : r.fp k) : ∀ cs, ¬ Blk w k 5 cs := fun cs hb => by
  rcases hk with rfl | rfl | rfl | hk
  · exact Blk.ne_ h.blk hb (by decide) rfl
  · exact own_ne h.rk hb (by decide) rfl
  · exact own_ne h.rn hb (by decide) rfl
  · exact own_ne h.rw hb (by decide) hk
theorem RAt.chg (h : RAt w r n d) (hc : Chg S w w') (hn : ∀ k, r.fp k → ¬ S k) (hp : ∀ k, S k → ∀ cs, ¬ Blk w k 5 cs) : RAt w' r n d :=
  ⟨h.ok, h.pos, h.le, h.blk.chg hc (hn _ (.inl rfl)), own_chg h.rk hc (by intro k hk; simp [Value.ownBlock] at hk; exact hn k (.inr (.inl hk.symm))),
   own_chg h.rn hc (by intro k hk; simp [Value.ownBlock] at hk; exact hn k (.inr (.inr (.inl hk.symm)))), own_chg h.rw hc (fun k hk => hn k (.inr (.inr (.inr hk)))), h.n1, h.hk, h.hn, h.hw,
   fun x hx => (h.pk x hx).chg hc hp, fun x hx => (h.pn x hx).chg hc hp, fun x hx => (h.pw x hx).chg hc hp⟩
theorem RAt.ext (h : RAt w r n d) (hb : Below w.heap.size w w') : RAt w' r n d :=
  h.chg (Chg.new hb (fun _ => False)) (fun _ _ h => h) (fun _ h => h.elim)
theorem pages_set (h : RAt w r n d) (i : Nat) (u : Value) {x : PR} (hx : POk w x) : POk (w.setCell ⟨r.g, i, none⟩ u) x :=
  hx.chg (chg_cell w r.g i u) (fun k hk => by subst hk; exact h.nopage (.inl rfl))
theorem RAt.left (h : RAt w r n d) (x : Int) (hx : -1 ≤ x ∧ x ≤ 9223372036854775807) : RAt (w.setCell ⟨r.g, 3, none⟩ (.int .i64 x)) r n { d with left := x } :=
  ⟨⟨h.ok.lk, h.ok.ln, h.ok.kp, h.ok.np, h.ok.wp, hx⟩, h.pos, h.le, by simpa using h.blk.set_ 3 (.int .i64 x), own_far h.rk (by simpa [Value.ownBlock] using h.ggk) _, own_far h.rn (by simpa [Value.ownBlock] using h.ggn) _, own_far h.rw h.ggw _, h.n1, h.hk, h.hn, h.hw,
   fun _ hx => pages_set h _ _ (h.pk _ hx), fun _ hx => pages_set h _ _ (h.pn _ hx), fun _ hx => pages_set h _ _ (h.pw _ hx)⟩
theorem RAt.downs (h : RAt w r n d) (x : Bool) : RAt (w.setCell ⟨r.g, 4, none⟩ (.bool x)) r n { d with down := x } :=
  ⟨⟨h.ok.lk, h.ok.ln, h.ok.kp, h.ok.np, h.ok.wp, h.ok.left⟩, h.pos, h.le, by simpa using h.blk.set_ 4 (.bool x), own_far h.rk (by simpa [Value.ownBlock] using h.ggk) _, own_far h.rn (by simpa [Value.ownBlock] using h.ggn) _, own_far h.rw h.ggw _, h.n1, h.hk, h.hn, h.hw,
   fun _ hx => pages_set h _ _ (h.pk _ hx), fun _ hx => pages_set h _ _ (h.pn _ hx), fun _ hx => pages_set h _ _ (h.pw _ hx)⟩
end
def RMoved (w : World) (r r' : RD) (w' : World) : Prop := r'.g = r.g ∧ Chg r.fp w w' ∧ ∀ k, r'.fp k → r.fp k ∨ w.heap.size ≤ k
theorem run_blank : ∃ cs : Array Value, cs.toList = DK.pgv DK.zero ∧ ∀ w : World,
    (Instr.makeSlice 33 (.int .i64 32) (.int .i64 32)).run Tryd.prog w = .ok (.slice (some ⟨w.heap.size, 0, none⟩) 32 32) (w.alloc (.cells cs 5)) := by
  obtain ⟨i, hi, hz0, hz1, hz2⟩ := info_parts infoByte
  refine ⟨madeCells (Value.int .u8 0).cells (32 * i.size), ?_, fun w => ?_⟩
  · rw [hz1]; show (madeCells #[Value.int .u8 0] (32 * 1)).toList = _; rw [toList_madeCells_one]; simp [DK.pgv, DK.zero]
  · have := run_make w 33 5 i _ Tryd.underlying33 hi hz0 .i64 .i64 32 32 (by omega) (Int.le_refl _) (by rw [hz2]; omega) (by omega)
    simpa using this
theorem POk.of_blk {w : World} {b : Nat} {p : DK.Pg} (h : Blk w b 5 (DK.pgv p).toArray) (hp : p.length = 32) : POk w ⟨b, 32, p⟩ := by
  refine ⟨by simp [DK.pgv, hp], .inr ⟨b, 32, _, rfl, Nat.zero_le _, h, Nat.le_refl _, by show 32 ≤ maxLen; unfold maxLen; omega, by simp [DK.pgv, hp], ?_⟩⟩
  simp [DK.pgv, hp, List.take_of_length_le]
def BlankPost (w : World) (e : Ending) (w' : World) : Prop := ∃ b : Nat, e = .returned (.slice (some ⟨b, 0, none⟩) 32 32) ∧ Blk w' b 5 (DK.pgv DK.zero).toArray ∧ Below w.heap.size w w' ∧ w.heap.size ≤ b
set_option maxHeartbeats 400000 in
theorem blank_any (w : World) : Calls Tryd.prog 61 #[] w (BlankPost w) := by
  obtain ⟨cs, hcs, hmk⟩ := run_blank
  have HCS := Lib.hid hcs
  clear hcs
  go_enter Tryd.func61, Tryd.ntmps61
  go_wp2
  go_ret
  refine ⟨w.heap.size, rfl, ?_, (Below.refl _ _).alloc (Nat.le_refl _) _, Nat.le_refl _⟩
  have : cs = (DK.pgv DK.zero).toArray := by rw [← HCS.out]
  rw [← this]; exact Blk.new _ _ _
def RStep (w : World) (r : RD) (n : Nat) (d : DK.D) (e : Ending) (w' : World) : Prop := e = .returned (.bool (!(DK.stopped d))) ∧ RAt w' r n (DK.step d) ∧ Chg (fun k => k = r.g) w w'
set_option maxHeartbeats 400000 in
theorem rstep_any (w : World) (r : RD) (n : Nat) (d : DK.D) (h : RAt w r n d) :
    Calls Tryd.prog 62 #[.pointer (some ⟨r.g, 0, none⟩)] w (RStep w r n d) := by
  obtain ⟨kept, now, ws, left, down⟩ := d
  have c3 : w.cell? ⟨r.g, 3, none⟩ = some (.int .i64 left) := h.blk.cell 3
  have c4 : w.cell? ⟨r.g, 4, none⟩ = some (.bool down) := h.blk.cell 4
  have f3 := h.blk.frozen 3
  have f4 := h.blk.frozen 4
  have hl := h.ok.left
  simp only at hl
  obtain ⟨hl1, hl2⟩ := hl
  have HH := Lib.hid h
  clear h
  by_cases e : down = true
  · subst e
    go_enter Tryd.func62, Tryd.ntmps62
    go_wp2
    go_ret
    exact ⟨by simp [DK.stopped], by simpa [DK.step, DK.stopped] using HH.out.downs true, chg_cell _ _ _ _⟩
  · have e' : down = false := by simpa using e
    clear e; subst e'
    by_cases e0 : left = 0
    · subst e0
      go_enter Tryd.func62, Tryd.ntmps62
      go_wp2
      go_ret
      exact ⟨by simp [DK.stopped], by simpa [DK.step, DK.stopped] using HH.out.downs true, chg_cell _ _ _ _⟩
    · have e1 : (left == 0) = false := by simpa using e0
      have HE := Lib.hid e0
      clear e0
      by_cases hp : 0 < left
      · go_enter Tryd.func62, Tryd.ntmps62
        go_wp2
        go_ret
        exact ⟨by simp [DK.stopped, HE.out], by have := HH.out.left (left - 1) (by omega); rw [DK.step]; simp [DK.stopped, HE.out]; rwa [show max (left - 1) (-1) = left - 1 by omega], chg_cell _ _ _ _⟩
      · have hm : left = -1 := by have := HE.out; omega
        subst hm
        clear hp hl1 hl2
        go_enter Tryd.func62, Tryd.ntmps62
        go_wp2
        go_ret
        have e : DK.step ⟨kept, now, ws, -1, false⟩ = ⟨kept, now, ws, -1, false⟩ := rfl
        exact ⟨by simp [DK.stopped], by rw [e]; exact HH.out, Chg.refl _ _⟩
def failTo (d : DK.D) (n : Int) : DK.D := { d with left := max n (-1) }
set_option maxHeartbeats 400000 in
theorem dfail_any (w : World) (u : Dsk) (n : Nat) (d : DK.D) (h : DAt w u n d) (x : Int) (hx : -9223372036854775808 ≤ x ∧ x ≤ 9223372036854775807) :
    Calls Tryd.prog 18 #[.pointer (some ⟨u.g, 0, none⟩), .int .i64 x] w fun e w' => e = .returned (.tuple #[]) ∧ DAt w' u n (failTo d x) ∧ Chg (fun k => k = u.g) w w' := by
  have c3 : w.cell? ⟨u.g, 3, none⟩ = some (.int .i64 d.left) := h.blk.cell 3
  have f3 := h.blk.frozen 3
  have HH := Lib.hid h
  clear h
  by_cases hm : x < -1
  · have HD : Hid (DAt (w.setCell ⟨u.g, 3, none⟩ (.int .i64 (-1))) u n (failTo d x)) := by
      have := HH.out.left (-1) (by omega); unfold Hid failTo; rwa [show max x (-1) = -1 by omega]
    go_enter Tryd.func18, Tryd.ntmps18
    go_wp2
    go_end0
    exact ⟨rfl, HD.out, chg_cell _ _ _ _⟩
  · have HD : Hid (DAt (w.setCell ⟨u.g, 3, none⟩ (.int .i64 x)) u n (failTo d x)) := by
      have := HH.out.left x (by omega); unfold Hid failTo; rwa [show max x (-1) = x by omega]
    go_enter Tryd.func18, Tryd.ntmps18
    go_wp2
    go_end0
    exact ⟨rfl, HD.out, chg_cell _ _ _ _⟩
set_option maxHeartbeats 400000 in
theorem dpages_any (w : World) (u : Dsk) (n : Nat) (d : DK.D) (h : DAt w u n d) :
    Calls Tryd.prog 12 #[.pointer (some ⟨u.g, 0, none⟩)] w fun e w' => e = .returned (.int .i64 n) ∧ w = w' := by
  have c1 : w.cell? ⟨u.g, 1, none⟩ = some (.slice (some ⟨u.gn, 0, none⟩) n u.cn) := h.blk.cell 1
  clear h
  go_enter Tryd.func12, Tryd.ntmps12
  go_wp2
  go_ret
  exact ⟨rfl, rfl⟩
end Go.Proofs.YtenjblonepegfaaDoor
