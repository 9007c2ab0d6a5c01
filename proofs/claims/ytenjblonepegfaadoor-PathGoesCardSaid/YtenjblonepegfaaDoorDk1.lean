/-
  How a disk lies in memory; walks of disk.New and (*Disk).step. New: for every number; step: over a disk that lies so.
-/
import Derived.Test.YtenjblonepegfaaDoorRows
import Derived.Test.YtenjblonepegfaaDoorDk
import Derived.WalkKit
import Derived.WalkSpells
import Derived.Lib.Hide
import Derived.Outline
import Derived.RegionTactic
import Derived.BigRegion
import Derived.Deep.QuietTactic
import Derived.BigQuiet
import Derived.Deep.DeepFit
import Derived.Laws.MakeOwn
namespace Go.Proofs.YtenjblonepegfaaDoor
open Go Go.RowKit

/-- Where a disk lies. -/
structure Dsk where
  g : Nat
  gk : Nat
  ck : Nat
  gn : Nat
  cn : Nat
  wv : Value
def Dsk.fp (u : Dsk) (k : Nat) : Prop := k = u.g ∨ k = u.gk ∨ k = u.gn ∨ u.wv.ownBlock = some k
structure DAt (w : World) (u : Dsk) (n : Nat) (d : DK.D) : Prop where
  ok : DK.Ok n d
  pos : 0 < n
  le : n ≤ 80
  blk : Blk w u.g 118 #[.slice (some ⟨u.gk, 0, none⟩) n u.ck, .slice (some ⟨u.gn, 0, none⟩) n u.cn, u.wv, .int .i64 d.left, .bool d.down]
  rk : w.ownsRow 0 124 32 (.slice (some ⟨u.gk, 0, none⟩) n u.ck) n (DK.pagesV d.kept)
  rn : w.ownsRow 0 124 32 (.slice (some ⟨u.gn, 0, none⟩) n u.cn) n (DK.pagesV d.now)
  rw : w.ownsRow 0 126 33 u.wv d.ws.length (DK.writesV d.ws)
  n1 : u.gk ≠ u.gn
section
variable {w w' : World} {u : Dsk} {n : Nat} {d : DK.D} {S : Nat → Prop}
theorem DAt.ggk (h : DAt w u n d) : u.gk ≠ u.g := by have := own_ne h.rk h.blk (by decide); simpa [Value.ownBlock] using this
theorem DAt.ggn (h : DAt w u n d) : u.gn ≠ u.g := by have := own_ne h.rn h.blk (by decide); simpa [Value.ownBlock] using this
theorem DAt.ggw (h : DAt w u n d) : u.wv.ownBlock ≠ some u.g := own_ne h.rw h.blk (by decide)
theorem own_ne2 {base base' : Nat} {e e' : TypeId} {size size' : Nat} {v v' : Value} {n n' : Nat} {xs xs' : List Value} (h : w.ownsRow base e size v n xs) (h' : w.ownsRow base' e' size' v' n' xs') (hne : e ≠ e') {k : Nat} (hk : v.ownBlock = some k) : v'.ownBlock ≠ some k := by
  rcases h.2 with ⟨rfl, _⟩ | ⟨g, cap, cur, rfl, _, hg, _⟩
  · simp [Value.ownBlock] at hk
  · simp [Value.ownBlock] at hk; subst hk
    rcases h'.2 with ⟨rfl, _⟩ | ⟨g', cap', cur', rfl, _, hg', _⟩
    · simp [Value.ownBlock]
    · intro hk; simp [Value.ownBlock] at hk; subst hk
      rw [hg] at hg'
      injection hg' with h1
      injection h1 with _ h2
      exact hne h2
theorem DAt.gwk (h : DAt w u n d) : u.wv.ownBlock ≠ some u.gk := own_ne2 h.rk h.rw (by decide) rfl
theorem DAt.gwn (h : DAt w u n d) : u.wv.ownBlock ≠ some u.gn := own_ne2 h.rn h.rw (by decide) rfl
theorem DAt.lt (h : DAt w u n d) {k : Nat} (hk : u.fp k) : k < w.heap.size := by
  rcases hk with rfl | rfl | rfl | hk
  · exact h.blk.lt
  · exact own_lt h.rk (by simp [Value.ownBlock])
  · exact own_lt h.rn (by simp [Value.ownBlock])
  · exact own_lt h.rw hk
theorem DAt.chg (h : DAt w u n d) (hc : Chg S w w') (hn : ∀ k, u.fp k → ¬ S k) : DAt w' u n d :=
  ⟨h.ok, h.pos, h.le, h.blk.chg hc (hn _ (.inl rfl)), own_chg h.rk hc (by intro k hk; simp [Value.ownBlock] at hk; exact hn k (.inr (.inl hk.symm))),
   own_chg h.rn hc (by intro k hk; simp [Value.ownBlock] at hk; exact hn k (.inr (.inr (.inl hk.symm)))), own_chg h.rw hc (fun k hk => hn k (.inr (.inr (.inr hk)))), h.n1⟩
theorem DAt.ext (h : DAt w u n d) (hb : Below w.heap.size w w') : DAt w' u n d := h.chg (Chg.of_below hb) (fun k hk => by have := h.lt hk; omega)
/-- The fields 'left' and 'down' are set. -/
theorem DAt.left (h : DAt w u n d) (x : Int) (hx : -1 ≤ x ∧ x ≤ 9223372036854775807) : DAt (w.setCell ⟨u.g, 3, none⟩ (.int .i64 x)) u n { d with left := x } :=
  ⟨⟨h.ok.lk, h.ok.ln, h.ok.kp, h.ok.np, h.ok.wp, hx⟩, h.pos, h.le, by simpa using h.blk.set_ 3 (.int .i64 x), own_far h.rk (by simpa [Value.ownBlock] using h.ggk) _, own_far h.rn (by simpa [Value.ownBlock] using h.ggn) _, own_far h.rw h.ggw _, h.n1⟩
theorem DAt.downs (h : DAt w u n d) (x : Bool) : DAt (w.setCell ⟨u.g, 4, none⟩ (.bool x)) u n { d with down := x } :=
  ⟨⟨h.ok.lk, h.ok.ln, h.ok.kp, h.ok.np, h.ok.wp, h.ok.left⟩, h.pos, h.le, by simpa using h.blk.set_ 4 (.bool x), own_far h.rk (by simpa [Value.ownBlock] using h.ggk) _, own_far h.rn (by simpa [Value.ownBlock] using h.ggn) _, own_far h.rw h.ggw _, h.n1⟩
end
/-- Only blocks of the disk and new ones have turned; its own afterwards are of these. -/
def DMoved (w : World) (u u' : Dsk) (w' : World) : Prop := u'.g = u.g ∧ Chg u.fp w w' ∧ ∀ k, u'.fp k → u.fp k ∨ w.heap.size ≤ k
abbrev derrV (n : Int) : Value := .iface 29 (.int .i64 n)

set_option maxHeartbeats 400000 in
theorem dnew_no (w : World) (n : Int) (h : n < 1 ∨ 80 < n) :
    Calls Tryd.prog 10 #[.int .i64 n] w fun e w' => e = .returned (.tuple #[.pointer none, derrV 1]) ∧ Below w.heap.size w w' := by
  by_cases h1 : n < 1
  · clear h
    go_enter Tryd.func10, Tryd.ntmps10
    go_wp2
    go_ret2
    exact ⟨rfl, Below.refl _ _⟩
  · have h2 : 80 < n := by omega
    clear h
    go_enter Tryd.func10, Tryd.ntmps10
    go_wp2
    go_ret2
    exact ⟨rfl, Below.refl _ _⟩

/-- What New leaves. -/
def DNew (w : World) (n : Nat) (e : Ending) (w' : World) : Prop := ∃ u : Dsk, e = .returned (.tuple #[.pointer (some ⟨u.g, 0, none⟩), .nilIface]) ∧ DAt w' u n (DK.new n) ∧ Below w.heap.size w w' ∧ ∀ k, u.fp k → w.heap.size ≤ k

theorem zpages (n : Nat) : DK.pagesV (List.replicate n DK.zero) = List.replicate (n * 32) (Value.int .u8 0) := by
  induction n with
  | zero => rfl
  | succ n ih =>
    rw [List.replicate_succ, DK.pagesV, rowsOf_cons]
    rw [DK.pagesV] at ih
    rw [ih, Nat.succ_mul, Nat.add_comm, ← List.replicate_append_replicate]
    simp [DK.pgv, DK.zero]
theorem made_cells (S : Nat) (z : Value) (hS : 0 < S) (c : Nat) : (madeCells (List.replicate S z).toArray c).toList = List.replicate c z := by
  apply List.ext_getElem?
  intro j
  by_cases hj : j < c
  · have hm : j % S < S := Nat.mod_lt _ hS
    simp [madeCells, hj, hm]
  · simp [madeCells, hj]
theorem infoPage : (Tryd.prog.info? 124).map (fun i => (i.zero, i.size, i.bytes)) = some (some (.agg (List.replicate 32 (Value.int .u8 0)).toArray), 32, 32) := by kernel_rfl
theorem run_pages (n : Nat) (h : n ≤ 80) : ∃ cs : Array Value, cs.toList = DK.pagesV (List.replicate n DK.zero) ∧ ∀ w : World,
    (Instr.makeSlice 115 (.int .i64 (n : Int)) (.int .i64 (n : Int))).run Tryd.prog w = .ok (.slice (some ⟨w.heap.size, 0, none⟩) n n) (w.alloc (.cells cs 124)) := by
  obtain ⟨i, hi, hz0, hz1, hz2⟩ := info_parts infoPage
  refine ⟨madeCells (Value.agg (List.replicate 32 (Value.int .u8 0)).toArray).cells (n * i.size), ?_, fun w => ?_⟩
  · rw [hz1, zpages]; exact made_cells 32 _ (by decide) _
  · have := run_make w 115 124 i _ Tryd.underlying115 hi hz0 .i64 .i64 (n : Int) (n : Int) (by omega) (Int.le_refl _) (by rw [hz2]; omega) (by omega)
    simpa using this

theorem dnew_end {w : World} {n a b : Nat} {cs : Array Value} (h1 : 0 < n) (h2 : n ≤ 80) (hcs : cs.toList = DK.pagesV (List.replicate n DK.zero)) (hab : (a = w.heap.size ∧ b = w.heap.size + 1) ∨ (a = w.heap.size + 1 ∧ b = w.heap.size)) :
    DNew w n (.returned (.tuple #[.pointer (some ⟨w.heap.size + 1 + 1, 0, none⟩), .nilIface]))
      (((w.alloc (.cells cs 124)).alloc (.cells cs 124)).alloc (.cells #[.slice (some ⟨a, 0, none⟩) n n, .slice (some ⟨b, 0, none⟩) n n, .slice none 0 0, .int .i64 (-1), .bool false] 118)).drew := by
  have hsz : cs.size = n * 32 := by
    have := congrArg List.length hcs
    rw [Array.length_toList] at this
    rw [this, DK.pagesV, rowsOf_len (f := DK.pgv) (l := List.replicate n DK.zero) (S := 32) (fun p hp => DK.pgv_len ((DK.Ok.new n).kp p hp))]; simp
  have r1 : ∀ W : World, (W.alloc (.cells cs 124)).ownsRow 0 124 32 (.slice (some ⟨W.heap.size, 0, none⟩) n n) n (DK.pagesV (List.replicate n DK.zero)) := fun W => by
    rw [← hcs]; exact World.ownsRow_lit W cs n (Nat.zero_le _) (by unfold maxLen; omega) hsz
  have ra := (((r1 w).alloc (.cells cs 124)).alloc (.cells #[.slice (some ⟨a, 0, none⟩) n n, .slice (some ⟨b, 0, none⟩) n n, .slice none 0 0, .int .i64 (-1), .bool false] 118)).drew
  have rb := ((r1 (w.alloc (.cells cs 124))).alloc (.cells #[.slice (some ⟨a, 0, none⟩) n n, .slice (some ⟨b, 0, none⟩) n n, .slice none 0 0, .int .i64 (-1), .bool false] 118)).drew
  rw [World.size_alloc] at rb
  have hB : Blk (((w.alloc (.cells cs 124)).alloc (.cells cs 124)).alloc (.cells #[.slice (some ⟨a, 0, none⟩) n n, .slice (some ⟨b, 0, none⟩) n n, .slice none 0 0, .int .i64 (-1), .bool false] 118)).drew (w.heap.size + 1 + 1) 118 #[.slice (some ⟨a, 0, none⟩) n n, .slice (some ⟨b, 0, none⟩) n n, .slice none 0 0, .int .i64 (-1), .bool false] := by
    have := (Blk.new ((w.alloc (.cells cs 124)).alloc (.cells cs 124)) 118 #[.slice (some ⟨a, 0, none⟩) n n, .slice (some ⟨b, 0, none⟩) n n, .slice none 0 0, .int .i64 (-1), .bool false]).drew
    simpa using this
  refine ⟨⟨w.heap.size + 1 + 1, a, n, b, n, .slice none 0 0⟩, rfl, ⟨DK.Ok.new n, h1, h2, hB, ?_, ?_, World.ownsRow_nil _ _ _ _, ?_⟩, ?_, ?_⟩
  · rcases hab with ⟨rfl, rfl⟩ | ⟨rfl, rfl⟩
    · exact ra
    · exact rb
  · rcases hab with ⟨rfl, rfl⟩ | ⟨rfl, rfl⟩
    · exact rb
    · exact ra
  · show a ≠ b
    omega
  · exact ((((Below.refl _ _).alloc (Nat.le_refl _) _).alloc (by simp) _).alloc (by simp; omega) _).drew
  · rintro k (h | h | h | h)
    · simp only at h; omega
    · simp only at h; omega
    · simp only at h; omega
    · simp [Value.ownBlock] at h

set_option maxHeartbeats 400000 in
set_option maxRecDepth 100000 in
theorem dnew_yes (w : World) (n : Nat) (h1 : 0 < n) (h2 : n ≤ 80) :
    Calls Tryd.prog 10 #[.int .i64 n] w (DNew w n) := by
  have t1 : ¬ ((n : Int) < 1) := by omega
  have t2 : decide ((80 : Int) < n) = false := by simp only [decide_eq_false_iff_not]; omega
  have hc : ∃ cs : Array Value, cs.toList = DK.pagesV (List.replicate n DK.zero) ∧ ∀ w : World,
    (Instr.makeSlice 115 (.int .i64 (n : Int)) (.int .i64 (n : Int))).run Tryd.prog w = .ok (.slice (some ⟨w.heap.size, 0, none⟩) n n) (w.alloc (.cells cs 124)) := run_pages n h2
  obtain ⟨cs, hcs, hmk⟩ := hc
  have HCS := Lib.hid hcs
  clear hcs
  go_enter Tryd.func10, Tryd.ntmps10
  go_wp2
  go_region
  all_goals go_wp2
  all_goals go_ret2
  · exact dnew_end h1 h2 HCS.out (Or.inl ⟨rfl, rfl⟩)
  · exact dnew_end h1 h2 HCS.out (Or.inr ⟨rfl, rfl⟩)

theorem chg_cell (w : World) (g i : Nat) (v : Value) : Chg (fun k => k = g) w (w.setCell ⟨g, i, none⟩ v) := (Chg.refl (fun k => k = g) w).setCell (p := ⟨g, i, none⟩) (fun _ => rfl) v
/-- What step leaves. -/
def DStep (w : World) (u : Dsk) (n : Nat) (d : DK.D) (e : Ending) (w' : World) : Prop := e = .returned (.bool (!(DK.stopped d))) ∧ DAt w' u n (DK.step d) ∧ Chg (fun k => k = u.g) w w'
set_option maxHeartbeats 400000 in
theorem dstep_any (w : World) (u : Dsk) (n : Nat) (d : DK.D) (h : DAt w u n d) :
    Calls Tryd.prog 63 #[.pointer (some ⟨u.g, 0, none⟩)] w (DStep w u n d) := by
  obtain ⟨kept, now, ws, left, down⟩ := d
  have c3 : w.cell? ⟨u.g, 3, none⟩ = some (.int .i64 left) := h.blk.cell 3
  have c4 : w.cell? ⟨u.g, 4, none⟩ = some (.bool down) := h.blk.cell 4
  have f3 := h.blk.frozen 3
  have f4 := h.blk.frozen 4
  have hl := h.ok.left
  simp only at hl
  obtain ⟨hl1, hl2⟩ := hl
  have HH := Lib.hid h
  clear h
  by_cases e : down = true
  · subst e
    go_enter Tryd.func63, Tryd.ntmps63
    go_wp2
    go_ret
    exact ⟨by simp [DK.stopped], by simpa [DK.step, DK.stopped] using HH.out.downs true, chg_cell _ _ _ _⟩
  · have e' : down = false := by simpa using e
    clear e; subst e'
    by_cases e0 : left = 0
    · subst e0
      go_enter Tryd.func63, Tryd.ntmps63
      go_wp2
      go_ret
      exact ⟨by simp [DK.stopped], by simpa [DK.step, DK.stopped] using HH.out.downs true, chg_cell _ _ _ _⟩
    · have e1 : (left == 0) = false := by simpa using e0
      have HE := Lib.hid e0
      clear e0
      go_enter Tryd.func63, Tryd.ntmps63
      go_wp2
      · go_ret
        exact ⟨by simp [DK.stopped, HE.out], by have := HH.out.left (-1) (by omega); rw [DK.step]; simp [DK.stopped, HE.out]; rwa [show max (left - 1) (-1) = -1 by omega], chg_cell _ _ _ _⟩
      · go_ret
        exact ⟨by simp [DK.stopped, HE.out], by have := HH.out.left (left - 1) (by omega); rw [DK.step]; simp [DK.stopped, HE.out]; rwa [show max (left - 1) (-1) = left - 1 by omega], chg_cell _ _ _ _⟩
end Go.Proofs.YtenjblonepegfaaDoor
