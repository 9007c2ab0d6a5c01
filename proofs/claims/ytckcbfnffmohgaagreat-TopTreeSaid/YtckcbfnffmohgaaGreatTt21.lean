/-
  How a disk lies in memory; walks of disk.New and (*Disk).step. New: for every number; step: over a disk that lies so.
  Walks of slices.Clone at pages, bytes.Clone, (*Disk).Read, Sync. Condition: the disk lies in memory as 'DAt' says.
  What a search answers. No conditions.
  Walks of slices.Index, slices.Contains, footbridgelaw2.has at integers, and of (*Disk).Sync. Condition: the row lies as 'IntsAt' says, the disk as 'DAt'.
-/
import Derived.Test.YtckcbfnffmohgaaGreatRows
import Derived.Test.YtckcbfnffmohgaaGreatTt5
import Derived.WalkKit
import Derived.WalkSpells
import Derived.Lib.Hide
import Derived.Outline
import Derived.RegionTactic
import Derived.BigRegion
import Derived.Deep.QuietTactic
import Derived.BigQuiet
import Derived.Deep.DeepFit
import Derived.Laws.MakeOwn
import Derived.Deep.RegionHeld3
import Derived.Deep.DrawnRows
import Derived.Test.YtckcbfnffmohgaaGreatTt2
namespace Go.Proofs.YtckcbfnffmohgaaGreat
open Go Go.RowKit

/-- Where a disk lies. -/
structure Dsk where
  g : Nat
  gk : Nat
  ck : Nat
  gn : Nat
  cn : Nat
  wv : Value
def Dsk.fp (u : Dsk) (k : Nat) : Prop := k = u.g ∨ k = u.gk ∨ k = u.gn ∨ u.wv.ownBlock = some k
structure DAt (w : World) (u : Dsk) (n : Nat) (d : DK.D) : Prop where
  ok : DK.Ok n d
  pos : 0 < n
  le : n ≤ 80
  blk : Blk w u.g 94 #[.slice (some ⟨u.gk, 0, none⟩) n u.ck, .slice (some ⟨u.gn, 0, none⟩) n u.cn, u.wv, .int .i64 d.left, .bool d.down]
  rk : w.ownsRow 0 181 32 (.slice (some ⟨u.gk, 0, none⟩) n u.ck) n (DK.pagesV d.kept)
  rn : w.ownsRow 0 181 32 (.slice (some ⟨u.gn, 0, none⟩) n u.cn) n (DK.pagesV d.now)
  rw : w.ownsRow 0 183 33 u.wv d.ws.length (DK.writesV d.ws)
  n1 : u.gk ≠ u.gn
section
variable {w w' : World} {u : Dsk} {n : Nat} {d : DK.D} {S : Nat → Prop}
theorem DAt.ggk (h : DAt w u n d) : u.gk ≠ u.g := by have := own_ne h.rk h.blk (by decide); simpa [Value.ownBlock] using this
theorem DAt.ggn (h : DAt w u n d) : u.gn ≠ u.g := by have := own_ne h.rn h.blk (by decide); simpa [Value.ownBlock] using this
theorem DAt.ggw (h : DAt w u n d) : u.wv.ownBlock ≠ some u.g := own_ne h.rw h.blk (by decide)
theorem own_ne2 {base base' : Nat} {e e' : TypeId} {size size' : Nat} {v v' : Value} {n n' : Nat} {xs xs' : List Value} (h : w.ownsRow base e size v n xs) (h' : w.ownsRow base' e' size' v' n' xs') (hne : e ≠ e') {k : Nat} (hk : v.ownBlock = some k) : v'.ownBlock ≠ some k := by
  rcases h.2 with ⟨rfl, _⟩ | ⟨g, cap, cur, rfl, _, hg, _⟩
  · simp [Value.ownBlock] at hk
  · simp [Value.ownBlock] at hk; subst hk
    rcases h'.2 with ⟨rfl, _⟩ | ⟨g', cap', cur', rfl, _, hg', _⟩
    · simp [Value.ownBlock]
    · intro hk; simp [Value.ownBlock] at hk; subst hk
      rw [hg] at hg'
      injection hg' with h1
      injection h1 with _ h2
      exact hne h2
theorem DAt.gwk (h : DAt w u n d) : u.wv.ownBlock ≠ some u.gk := own_ne2 h.rk h.rw (by decide) rfl
theorem DAt.gwn (h : DAt w u n d) : u.wv.ownBlock ≠ some u.gn := own_ne2 h.rn h.rw (by decide) rfl
theorem DAt.lt (h : DAt w u n d) {k : Nat} (hk : u.fp k) : k < w.heap.size := by
  rcases hk with rfl | rfl | rfl | hk
  · exact h.blk.lt
  · exact own_lt h.rk (by simp [Value.ownBlock])
  · exact own_lt h.rn (by simp [Value.ownBlock])
  · exact own_lt h.rw hk
theorem DAt.chg (h : DAt w u n d) (hc : Chg S w w') (hn : ∀ k, u.fp k → ¬ S k) : DAt w' u n d :=
  ⟨h.ok, h.pos, h.le, h.blk.chg hc (hn _ (.inl rfl)), own_chg h.rk hc (by intro k hk; simp [Value.ownBlock] at hk; exact hn k (.inr (.inl hk.symm))),
   own_chg h.rn hc (by intro k hk; simp [Value.ownBlock] at hk; exact hn k (.inr (.inr (.inl hk.symm)))), own_chg h.rw hc (fun k hk => hn k (.inr (.inr (.inr hk)))), h.n1⟩
theorem DAt.ext (h : DAt w u n d) (hb : Below w.heap.size w w') : DAt w' u n d := h.chg (Chg.of_below hb) (fun k hk => by have := h.lt hk; omega)
/-- The fields 'left' and 'down' are set. -/
theorem DAt.left (h : DAt w u n d) (x : Int) (hx : -1 ≤ x ∧ x ≤ 9223372036854775807) : DAt (w.setCell ⟨u.g, 3, none⟩ (.int .i64 x)) u n { d with left := x } :=
  ⟨⟨h.ok.lk, h.ok.ln, h.ok.kp, h.ok.np, h.ok.wp, hx⟩, h.pos, h.le, by simpa using h.blk.set_ 3 (.int .i64 x), own_far h.rk (by simpa [Value.ownBlock] using h.ggk) _, own_far h.rn (by simpa [Value.ownBlock] using h.ggn) _, own_far h.rw h.ggw _, h.n1⟩
theorem DAt.downs (h : DAt w u n d) (x : Bool) : DAt (w.setCell ⟨u.g, 4, none⟩ (.bool x)) u n { d with down := x } :=
  ⟨⟨h.ok.lk, h.ok.ln, h.ok.kp, h.ok.np, h.ok.wp, h.ok.left⟩, h.pos, h.le, by simpa using h.blk.set_ 4 (.bool x), own_far h.rk (by simpa [Value.ownBlock] using h.ggk) _, own_far h.rn (by simpa [Value.ownBlock] using h.ggn) _, own_far h.rw h.ggw _, h.n1⟩
end
/-- Only blocks of the disk and new ones have turned; its own afterwards are of these. -/
def DMoved (w : World) (u u' : Dsk) (w' : World) : Prop := u'.g = u.g ∧ Chg u.fp w w' ∧ ∀ k, u'.fp k → u.fp k ∨ w.heap.size ≤ k
abbrev derrV (n : Int) : Value := .iface 66 (.int .i64 n)

set_option maxHeartbeats 400000 in
theorem dnew_no (w : World) (n : Int) (h : n < 1 ∨ 80 < n) :
    Calls Tryz.prog 16 #[.int .i64 n] w fun e w' => e = .returned (.tuple #[.pointer none, derrV 1]) ∧ Below w.heap.size w w' := by
  by_cases h1 : n < 1
  · clear h
    go_enter Tryz.func16, Tryz.ntmps16
    go_wp2
    go_ret2
    exact ⟨rfl, Below.refl _ _⟩
  · have h2 : 80 < n := by omega
    clear h
    go_enter Tryz.func16, Tryz.ntmps16
    go_wp2
    go_ret2
    exact ⟨rfl, Below.refl _ _⟩

/-- What New leaves. -/
def DNew (w : World) (n : Nat) (e : Ending) (w' : World) : Prop := ∃ u : Dsk, e = .returned (.tuple #[.pointer (some ⟨u.g, 0, none⟩), .nilIface]) ∧ DAt w' u n (DK.new n) ∧ Below w.heap.size w w' ∧ ∀ k, u.fp k → w.heap.size ≤ k

theorem zpages (n : Nat) : DK.pagesV (List.replicate n DK.zero) = List.replicate (n * 32) (Value.int .u8 0) := by
  induction n with
  | zero => rfl
  | succ n ih =>
    rw [List.replicate_succ, DK.pagesV, rowsOf_cons]
    rw [DK.pagesV] at ih
    rw [ih, Nat.succ_mul, Nat.add_comm, ← List.replicate_append_replicate]
    simp [DK.pgv, DK.zero]
theorem made_cells (S : Nat) (z : Value) (hS : 0 < S) (c : Nat) : (madeCells (List.replicate S z).toArray c).toList = List.replicate c z := by
  apply List.ext_getElem?
  intro j
  by_cases hj : j < c
  · have hm : j % S < S := Nat.mod_lt _ hS
    simp [madeCells, hj, hm]
  · simp [madeCells, hj]
theorem infoPage : (Tryz.prog.info? 181).map (fun i => (i.zero, i.size, i.bytes)) = some (some (.agg (List.replicate 32 (Value.int .u8 0)).toArray), 32, 32) := by kernel_rfl
theorem run_pages (n : Nat) (h : n ≤ 80) : ∃ cs : Array Value, cs.toList = DK.pagesV (List.replicate n DK.zero) ∧ ∀ w : World,
    (Instr.makeSlice 91 (.int .i64 (n : Int)) (.int .i64 (n : Int))).run Tryz.prog w = .ok (.slice (some ⟨w.heap.size, 0, none⟩) n n) (w.alloc (.cells cs 181)) := by
  obtain ⟨i, hi, hz0, hz1, hz2⟩ := info_parts infoPage
  refine ⟨madeCells (Value.agg (List.replicate 32 (Value.int .u8 0)).toArray).cells (n * i.size), ?_, fun w => ?_⟩
  · rw [hz1, zpages]; exact made_cells 32 _ (by decide) _
  · have := run_make w 91 181 i _ Tryz.underlying91 hi hz0 .i64 .i64 (n : Int) (n : Int) (by omega) (Int.le_refl _) (by rw [hz2]; omega) (by omega)
    simpa using this

theorem dnew_end {w : World} {n a b : Nat} {cs : Array Value} (h1 : 0 < n) (h2 : n ≤ 80) (hcs : cs.toList = DK.pagesV (List.replicate n DK.zero)) (hab : (a = w.heap.size ∧ b = w.heap.size + 1) ∨ (a = w.heap.size + 1 ∧ b = w.heap.size)) :
    DNew w n (.returned (.tuple #[.pointer (some ⟨w.heap.size + 1 + 1, 0, none⟩), .nilIface]))
      (((w.alloc (.cells cs 181)).alloc (.cells cs 181)).alloc (.cells #[.slice (some ⟨a, 0, none⟩) n n, .slice (some ⟨b, 0, none⟩) n n, .slice none 0 0, .int .i64 (-1), .bool false] 94)).drew := by
  have hsz : cs.size = n * 32 := by
    have := congrArg List.length hcs
    rw [Array.length_toList] at this
    rw [this, DK.pagesV, rowsOf_len (f := DK.pgv) (l := List.replicate n DK.zero) (S := 32) (fun p hp => DK.pgv_len ((DK.Ok.new n).kp p hp))]; simp
  have r1 : ∀ W : World, (W.alloc (.cells cs 181)).ownsRow 0 181 32 (.slice (some ⟨W.heap.size, 0, none⟩) n n) n (DK.pagesV (List.replicate n DK.zero)) := fun W => by
    rw [← hcs]; exact World.ownsRow_lit W cs n (Nat.zero_le _) (by unfold maxLen; omega) hsz
  have ra := (((r1 w).alloc (.cells cs 181)).alloc (.cells #[.slice (some ⟨a, 0, none⟩) n n, .slice (some ⟨b, 0, none⟩) n n, .slice none 0 0, .int .i64 (-1), .bool false] 94)).drew
  have rb := ((r1 (w.alloc (.cells cs 181))).alloc (.cells #[.slice (some ⟨a, 0, none⟩) n n, .slice (some ⟨b, 0, none⟩) n n, .slice none 0 0, .int .i64 (-1), .bool false] 94)).drew
  rw [World.size_alloc] at rb
  have hB : Blk (((w.alloc (.cells cs 181)).alloc (.cells cs 181)).alloc (.cells #[.slice (some ⟨a, 0, none⟩) n n, .slice (some ⟨b, 0, none⟩) n n, .slice none 0 0, .int .i64 (-1), .bool false] 94)).drew (w.heap.size + 1 + 1) 94 #[.slice (some ⟨a, 0, none⟩) n n, .slice (some ⟨b, 0, none⟩) n n, .slice none 0 0, .int .i64 (-1), .bool false] := by
    have := (Blk.new ((w.alloc (.cells cs 181)).alloc (.cells cs 181)) 94 #[.slice (some ⟨a, 0, none⟩) n n, .slice (some ⟨b, 0, none⟩) n n, .slice none 0 0, .int .i64 (-1), .bool false]).drew
    simpa using this
  refine ⟨⟨w.heap.size + 1 + 1, a, n, b, n, .slice none 0 0⟩, rfl, ⟨DK.Ok.new n, h1, h2, hB, ?_, ?_, World.ownsRow_nil _ _ _ _, ?_⟩, ?_, ?_⟩
  · rcases hab with ⟨rfl, rfl⟩ | ⟨rfl, rfl⟩
    · exact ra
    · exact rb
  · rcases hab with ⟨rfl, rfl⟩ | ⟨rfl, rfl⟩
    · exact rb
    · exact ra
  · show a ≠ b
    omega
  · exact ((((Below.refl _ _).alloc (Nat.le_refl _) _).alloc (by simp) _).alloc (by simp; omega) _).drew
  · rintro k (h | h | h | h)
    · simp only at h; omega
    · simp only at h; omega
    · simp only at h; omega
    · simp [Value.ownBlock] at h

set_option maxHeartbeats 400000 in
set_option maxRecDepth 100000 in
theorem dnew_yes (w : World) (n : Nat) (h1 : 0 < n) (h2 : n ≤ 80) :
    Calls Tryz.prog 16 #[.int .i64 n] w (DNew w n) := by
  have t1 : ¬ ((n : Int) < 1) := by omega
  have t2 : decide ((80 : Int) < n) = false := by simp only [decide_eq_false_iff_not]; omega
  have hc : ∃ cs : Array Value, cs.toList = DK.pagesV (List.replicate n DK.zero) ∧ ∀ w : World,
    (Instr.makeSlice 91 (.int .i64 (n : Int)) (.int .i64 (n : Int))).run Tryz.prog w = .ok (.slice (some ⟨w.heap.size, 0, none⟩) n n) (w.alloc (.cells cs 181)) := run_pages n h2
  obtain ⟨cs, hcs, hmk⟩ := hc
  have HCS := Lib.hid hcs
  clear hcs
  go_enter Tryz.func16, Tryz.ntmps16
  go_wp2
  go_region
  all_goals go_wp2
  all_goals go_ret2
  · exact dnew_end h1 h2 HCS.out (Or.inl ⟨rfl, rfl⟩)
  · exact dnew_end h1 h2 HCS.out (Or.inr ⟨rfl, rfl⟩)

theorem chg_cell (w : World) (g i : Nat) (v : Value) : Chg (fun k => k = g) w (w.setCell ⟨g, i, none⟩ v) := (Chg.refl (fun k => k = g) w).setCell (p := ⟨g, i, none⟩) (fun _ => rfl) v
/-- What step leaves. -/
def DStep (w : World) (u : Dsk) (n : Nat) (d : DK.D) (e : Ending) (w' : World) : Prop := e = .returned (.bool (!(DK.stopped d))) ∧ DAt w' u n (DK.step d) ∧ Chg (fun k => k = u.g) w w'
set_option maxHeartbeats 400000 in
theorem dstep_any (w : World) (u : Dsk) (n : Nat) (d : DK.D) (h : DAt w u n d) :
    Calls Tryz.prog 113 #[.pointer (some ⟨u.g, 0, none⟩)] w (DStep w u n d) := by
  obtain ⟨kept, now, ws, left, down⟩ := d
  have c3 : w.cell? ⟨u.g, 3, none⟩ = some (.int .i64 left) := h.blk.cell 3
  have c4 : w.cell? ⟨u.g, 4, none⟩ = some (.bool down) := h.blk.cell 4
  have f3 := h.blk.frozen 3
  have f4 := h.blk.frozen 4
  have hl := h.ok.left
  simp only at hl
  obtain ⟨hl1, hl2⟩ := hl
  have HH := Lib.hid h
  clear h
  by_cases e : down = true
  · subst e
    go_enter Tryz.func113, Tryz.ntmps113
    go_wp2
    go_ret
    exact ⟨by simp [DK.stopped], by simpa [DK.step, DK.stopped] using HH.out.downs true, chg_cell _ _ _ _⟩
  · have e' : down = false := by simpa using e
    clear e; subst e'
    by_cases e0 : left = 0
    · subst e0
      go_enter Tryz.func113, Tryz.ntmps113
      go_wp2
      go_ret
      exact ⟨by simp [DK.stopped], by simpa [DK.step, DK.stopped] using HH.out.downs true, chg_cell _ _ _ _⟩
    · have e1 : (left == 0) = false := by simpa using e0
      have HE := Lib.hid e0
      clear e0
      go_enter Tryz.func113, Tryz.ntmps113
      go_wp2
      · go_ret
        exact ⟨by simp [DK.stopped, HE.out], by have := HH.out.left (-1) (by omega); rw [DK.step]; simp [DK.stopped, HE.out]; rwa [show max (left - 1) (-1) = -1 by omega], chg_cell _ _ _ _⟩
      · go_ret
        exact ⟨by simp [DK.stopped, HE.out], by have := HH.out.left (left - 1) (by omega); rw [DK.step]; simp [DK.stopped, HE.out]; rwa [show max (left - 1) (-1) = left - 1 by omega], chg_cell _ _ _ _⟩
end Go.Proofs.YtckcbfnffmohgaaGreat
namespace Go.Proofs.YtckcbfnffmohgaaGreat
open Go Go.RowKit

/-- 'append([]T{}, s...)', s not empty. -/
theorem wpList_clone {P : Program} (W : World) {ops : Array Oper} {rest : List Oper} {o : Oper} {a : Act} {Q : Exit → Act → World → Prop} (hgd : o.guard = none) (s x : Operand) (t : TypeId)
    (ho : o.op = .call { callee := .builtin .append, args := #[s, x], argTypes := #[t, t] })
    (e : TypeId) (z : Value) (size bytes : Nat) (ht : P.underlying t = some (.slice e)) (hinfo : (P.info? e).map (fun i => (i.zero, i.size, i.bytes)) = some (some z, size, bytes)) (hzs : z.cells.size = size) (hsz : 0 < size)
    (hs : a.eval s = .slice (some ⟨W.heap.size, 0, none⟩) 0 0)
    (ad : Addr) (m c : Nat) (news : List Value) (hx : a.eval x = .slice (some ad) m c) (hm : 0 < m) (hl : news.length = m * size) (hnews : ∀ j u, news[j]? = some u → (W.alloc (.cells #[] e)).cell? (ad.add j) = some u) (h1 : ∀ u ∈ news, u.oneCell' = true)
    (hb : m ≤ 1000000 ∧ bytes ≤ 1000)
    (h : ∀ g cap w', W.heap.size ≤ g → w'.ownsRow 0 e size (.slice (some ⟨g, 0, none⟩) m cap) m news → Below W.heap.size W w' → wpList P ops Q rest (a.put o.dst (.slice (some ⟨g, 0, none⟩) m cap)) w') : wpList P ops Q (o :: rest) a (W.alloc (.cells #[] e)) := by
  obtain ⟨i, hi, hz0, hz1, hz2⟩ := info_parts hinfo
  have hmul : (0 + m) * bytes ≤ 140737488355328 := Nat.le_trans (Nat.mul_le_mul (show 0 + m ≤ 1000000 by omega) hb.2) (by decide)
  have hown : (W.alloc (.cells #[] e)).ownsRow 0 e size (.slice (some ⟨W.heap.size, 0, none⟩) 0 0) 0 [] := World.ownsRow_lit W #[] 0 (Nat.zero_le _) (by unfold maxLen; omega) (by simp)
  refine wpList_append_own_at _ hgd s x t ho 0 e i z size bytes ht hi hz0 hz1 hz2 hzs hsz _ 0 [] hs hown ad m c news hx hl hnews h1 (by unfold maxLen; omega) hmul (Nat.zero_le _) ?_
  intro v' w' hown' hgr _ hat
  rw [List.nil_append, Nat.zero_add] at hown'
  obtain ⟨g, cap, rfl, _, _⟩ := own_form hown' hm
  simp [Value.ownBlock] at hat
  refine h g cap w' (by omega) hown' ?_
  have c1 := ((Chg.of_below (Below.refl W.heap.size W)).alloc (.cells #[] e)).trans (Chg.of_grown hgr) (S' := fun k => some k = (Value.slice (some ⟨W.heap.size, 0, none⟩) 0 0).ownBlock) (fun k _ hk => by simp [Value.ownBlock] at hk; omega)
  exact c1.below (Nat.le_refl _) (fun k _ hk => hk)

theorem pagesV_one {ps : List DK.Pg} : ∀ u ∈ DK.pagesV ps, u.oneCell' = true := by
  intro u hu
  simp only [DK.pagesV, rowsOf, List.mem_flatMap] at hu
  obtain ⟨p, _, hp⟩ := hu
  simp only [DK.pgv, List.mem_map] at hp
  obtain ⟨x, _, rfl⟩ := hp
  rfl
theorem pgv_one {p : DK.Pg} : ∀ u ∈ DK.pgv p, u.oneCell' = true := by
  intro u hu
  simp only [DK.pgv, List.mem_map] at hu
  obtain ⟨x, _, rfl⟩ := hu
  rfl
/-- What Clone of pages leaves. -/
def PClone (w : World) (n : Nat) (xs : List Value) (e : Ending) (w' : World) : Prop := ∃ g c, e = .returned (.slice (some ⟨g, 0, none⟩) n c) ∧ w.heap.size ≤ g ∧ w'.ownsRow 0 181 32 (.slice (some ⟨g, 0, none⟩) n c) n xs ∧ Below w.heap.size w w'
set_option maxHeartbeats 400000 in
set_option maxRecDepth 100000 in
theorem pclone_any (w : World) (g n c : Nat) (ps : List DK.Pg) (hn : 0 < n) (hn2 : n ≤ 80) (h : w.ownsRow 0 181 32 (.slice (some ⟨g, 0, none⟩) n c) n (DK.pagesV ps)) :
    Calls Tryz.prog 114 #[.slice (some ⟨g, 0, none⟩) n c] w (PClone w n (DK.pagesV ps)) := by
  obtain ⟨X, hX⟩ : ∃ X, X = DK.pagesV ps := ⟨_, rfl⟩
  have h1 : Hid (∀ u ∈ X, u.oneCell' = true) := by subst hX; exact pagesV_one
  rw [← hX] at h ⊢
  have HH := Lib.hid h
  have HS : Hid (∀ j u, X[j]? = some u → (w.alloc (.cells #[] 181)).cell? ((⟨g, 0, none⟩ : Addr).add j) = some u) := fun j u hj => (h.alloc (.cells #[] 181)).cells (g := g) rfl j u hj
  have HL : Hid (X.length = n * 32) := h.1
  clear h hX
  have u87 := fun w a n c n' c' => Lib.run_eql_slice_nil (P := Tryz.prog) w 91 181 a n c n' c' Tryz.underlying91
  go_enter Tryz.func114, Tryz.ntmps114
  go_wp2_with (at_builtin; refine wpList_clone w rfl (.tmp 5) (.tmp 6) 91 rfl 181 (.agg (List.replicate 32 (Value.int .u8 0)).toArray) 32 32 Tryz.underlying91 infoPage (by rfl) (by decide) rfl ⟨g, 0, none⟩ n c X rfl hn HL.out HS.out h1.out ⟨by omega, by omega⟩ ?_; intro g' c' w' hg ho hb)
  go_ret
  exact ⟨g', c', rfl, hg, ho, hb⟩

theorem infoByte : (Tryz.prog.info? 5).map (fun i => (i.zero, i.size, i.bytes)) = some (some (.int .u8 0), 1, 1) := by kernel_rfl
/-- What Clone of bytes leaves. -/
def BClone (w : World) (n : Nat) (xs : List Value) (e : Ending) (w' : World) : Prop := ∃ g c, e = .returned (.slice (some ⟨g, 0, none⟩) n c) ∧ w.heap.size ≤ g ∧ w'.ownsRow 0 5 1 (.slice (some ⟨g, 0, none⟩) n c) n xs ∧ Below w.heap.size w w'
set_option maxHeartbeats 400000 in
set_option maxRecDepth 100000 in
theorem bclone_any (w : World) (g o n c : Nat) (p : DK.Pg) (hn : 0 < n) (hn2 : n ≤ 100000) (hl : p.length = n) (h : w.rangeAt g o (DK.pgv p)) :
    Calls Tryz.prog 74 #[.slice (some ⟨g, o, none⟩) n c] w (BClone w n (DK.pgv p)) := by
  obtain ⟨X, hX⟩ : ∃ X, X = DK.pgv p := ⟨_, rfl⟩
  have h1 : Hid (∀ u ∈ X, u.oneCell' = true) := by subst hX; exact pgv_one
  have HL : Hid (X.length = n * 1) := by subst hX; simp [DK.pgv, hl, Hid]
  rw [← hX] at h ⊢
  have HS : Hid (∀ j u, X[j]? = some u → (w.alloc (.cells #[] 5)).cell? ((⟨g, o, none⟩ : Addr).add j) = some u) := fun j u hj => by
    rw [Addr.add_mid]; exact (World.rangeAt_alloc h (.cells #[] 5)) j u hj
  clear h hX
  have u48 := fun w a n c n' c' => Lib.run_eql_slice_nil (P := Tryz.prog) w 95 5 a n c n' c' Tryz.underlying95
  go_enter Tryz.func74, Tryz.ntmps74
  go_wp2_with (at_builtin; refine wpList_clone w rfl (.tmp 5) (.tmp 6) 95 rfl 5 (.int .u8 0) 1 1 Tryz.underlying95 infoByte (by rfl) (by decide) rfl ⟨g, o, none⟩ n c X rfl hn HL.out HS.out h1.out ⟨by omega, by omega⟩ ?_; intro g' c' w' hg ho hb)
  go_ret
  exact ⟨g', c', rfl, hg, ho, hb⟩

theorem DAt.now_range {w : World} {u : Dsk} {n : Nat} {d : DK.D} (h : DAt w u n d) {i : Nat} {p : DK.Pg} (hp : d.now[i]? = some p) : w.rangeAt u.gn (i * 32) (DK.pgv p) :=
  own_range h.rn (fun _ _ hv => rowsOf_get h.ok.pl hp hv)
/-- What Read leaves. -/
def DRead (w : World) (p : DK.Pg) (e : Ending) (w' : World) : Prop := ∃ g c, e = .returned (.tuple #[.slice (some ⟨g, 0, none⟩) 32 c, .nilIface]) ∧ w.heap.size ≤ g ∧ w'.ownsRow 0 5 1 (.slice (some ⟨g, 0, none⟩) 32 c) 32 (DK.pgv p) ∧ Below w.heap.size w w'
set_option maxHeartbeats 400000 in
set_option maxRecDepth 100000 in
theorem dread_yes (w : World) (u : Dsk) (n : Nat) (d : DK.D) (h : DAt w u n d) (i : Nat) (p : DK.Pg) (hp : d.now[i]? = some p) :
    Calls Tryz.prog 71 #[.pointer (some ⟨u.g, 0, none⟩), .int .i64 i] w (DRead w p) := by
  have c1 : w.cell? ⟨u.g, 1, none⟩ = some (.slice (some ⟨u.gn, 0, none⟩) n u.cn) := h.blk.cell 1
  have hle := h.le
  have hi : i < n := by have := (List.getElem?_eq_some_iff.1 hp).1; rwa [h.ok.ln] at this
  have HR := Lib.hid (h.now_range hp)
  have HL := Lib.hid (h.ok.np p (List.mem_of_getElem? hp))
  have h1 : ¬ ((i : Int) < 0) := by omega
  have h2 : decide ((n : Int) ≤ (i : Int)) = false := by simp only [decide_eq_false_iff_not]; omega
  clear h hp
  go_enter Tryz.func71, Tryz.ntmps71
  go_wp2_with fail
  refine (bclone_any w u.gn (i * 32) 32 32 p (by omega) (by omega) HL.out HR.out).mono ?_
  rintro e w' ⟨g, c, rfl, hg, ho, hb⟩
  go_wp2
  go_ret2
  exact ⟨g, c, rfl, hg, ho, hb⟩
end Go.Proofs.YtckcbfnffmohgaaGreat
namespace Go.Proofs.YtckcbfnffmohgaaGreat
open Go Go.RowKit

end Go.Proofs.YtckcbfnffmohgaaGreat
namespace Go.Proofs.YtckcbfnffmohgaaGreat
open Go Go.RowKit

/-- What Sync leaves. -/
def DSync (w : World) (u : Dsk) (n : Nat) (d : DK.D) (e : Ending) (w' : World) : Prop :=
  ∃ u' : Dsk, e = .returned (if DK.stopped d then derrV 8 else .nilIface) ∧ DAt w' u' n (if DK.stopped d then DK.step d else DK.sync (DK.step d)) ∧ DMoved w u u' w'
set_option maxHeartbeats 400000 in
theorem dsync_no (w : World) (u : Dsk) (n : Nat) (d : DK.D) (h : DAt w u n d) (hs : DK.stopped d = true) :
    Calls Tryz.prog 69 #[.pointer (some ⟨u.g, 0, none⟩)] w (DSync w u n d) := by
  have HH := Lib.hid h
  have HS := Lib.hid hs
  clear h hs
  go_enter Tryz.func69, Tryz.ntmps69
  go_wp2_with fail
  refine (dstep_any w u n d HH.out).mono ?_
  rintro e w1 ⟨rfl, h1, c1⟩
  have H1 := Lib.hid h1
  have C1 := Lib.hid c1
  clear h1 c1
  rw [HS.out]
  go_wp2
  go_ret
  refine ⟨u, by rw [HS.out]; rfl, by rw [HS.out]; exact H1.out, rfl, C1.out.mono (fun k _ hk => .inl hk), fun k hk => .inl hk⟩
theorem sync_end {w w1 w2 : World} {u : Dsk} {n g c : Nat} {d : DK.D} (h1 : DAt w1 u n d) (c1 : Chg (fun k => k = u.g) w w1) (hg : w1.heap.size ≤ g) (ho : w2.ownsRow 0 181 32 (.slice (some ⟨g, 0, none⟩) n c) n (DK.pagesV d.now)) (hb : Below w1.heap.size w1 w2) :
    DAt ((w2.setCell ⟨u.g, 0, none⟩ (.slice (some ⟨g, 0, none⟩) n c)).setCell ⟨u.g, 2, none⟩ (.slice none 0 0)) ⟨u.g, g, c, u.gn, u.cn, .slice none 0 0⟩ n (DK.sync d) ∧
    DMoved w u ⟨u.g, g, c, u.gn, u.cn, .slice none 0 0⟩ ((w2.setCell ⟨u.g, 0, none⟩ (.slice (some ⟨g, 0, none⟩) n c)).setCell ⟨u.g, 2, none⟩ (.slice none 0 0)) := by
  have h2 := h1.ext hb
  have hug : u.g < w1.heap.size := h1.lt (.inl rfl)
  have hgn : u.gn < w1.heap.size := h1.lt (.inr (.inr (.inl rfl)))
  refine ⟨⟨h1.ok.sync, h1.pos, h1.le, by simpa [DK.sync] using (h2.blk.set_ 0 (.slice (some ⟨g, 0, none⟩) n c)).set_ 2 (.slice none 0 0), ?_, ?_, World.ownsRow_nil _ _ _ _, ?_⟩, rfl, ?_, ?_⟩
  · exact own_far (own_far ho (by simp [Value.ownBlock]; omega) _) (by simp [Value.ownBlock]; omega) _
  · exact own_far (own_far h2.rn (by simpa [Value.ownBlock] using h1.ggn) _) (by simpa [Value.ownBlock] using h1.ggn) _
  · show g ≠ u.gn
    omega
  · have c2 : Chg u.fp w w2 := (c1.mono (fun k _ hk => Or.inl hk)).trans (Chg.of_below hb) (fun i hi hS => absurd hS (by have := c1.size; omega))
    exact (c2.setCell (p := ⟨u.g, 0, none⟩) (fun _ => .inl rfl) _).setCell (p := ⟨u.g, 2, none⟩) (fun _ => .inl rfl) _
  · have := c1.size
    rintro k (h | h | h | h)
    · exact .inl (.inl h)
    · simp only at h; right; omega
    · exact .inl (.inr (.inr (.inl h)))
    · simp [Value.ownBlock] at h
set_option maxHeartbeats 400000 in
theorem dsync_yes (w : World) (u : Dsk) (n : Nat) (d : DK.D) (h : DAt w u n d) (hs : DK.stopped d = false) :
    Calls Tryz.prog 69 #[.pointer (some ⟨u.g, 0, none⟩)] w (DSync w u n d) := by
  have HH := Lib.hid h
  have HS := Lib.hid hs
  clear h hs
  go_enter Tryz.func69, Tryz.ntmps69
  go_wp2_with fail
  refine (dstep_any w u n d HH.out).mono ?_
  rintro e w1 ⟨rfl, h1, c1⟩
  have H1 := Lib.hid h1
  have C1 := Lib.hid c1
  have b1 : w1.cell? ⟨u.g, 1, none⟩ = some (.slice (some ⟨u.gn, 0, none⟩) n u.cn) := h1.blk.cell 1
  have hle := h1.le
  have hps := h1.pos
  clear h1 c1
  rw [HS.out]
  go_wp2_with fail
  refine (pclone_any w1 u.gn n u.cn (DK.step d).now hps hle H1.out.rn).mono ?_
  rintro e w2 ⟨g, c, rfl, hg, ho, hb⟩
  have HG := Lib.hid hg
  have HO := Lib.hid ho
  have HB := Lib.hid hb
  have HD := Lib.hid (H1.out.ext hb)
  have b2 : w2.cell? ⟨u.g, 2, none⟩ = some u.wv := HD.out.blk.cell 2
  have b0 : w2.cell? ⟨u.g, 0, none⟩ = some (.slice (some ⟨u.gk, 0, none⟩) n u.ck) := HD.out.blk.cell 0
  have f0 := HD.out.blk.frozen 0
  have f2 := HD.out.blk.frozen 2
  clear hg ho hb
  go_wp2
  go_ret
  obtain ⟨r1, r2⟩ := sync_end H1.out C1.out HG.out HO.out HB.out
  refine ⟨_, by rw [HS.out]; rfl, by rw [HS.out]; exact r1, r2⟩
theorem dsync_any (w : World) (u : Dsk) (n : Nat) (d : DK.D) (h : DAt w u n d) :
    Calls Tryz.prog 69 #[.pointer (some ⟨u.g, 0, none⟩)] w (DSync w u n d) := by
  by_cases hs : DK.stopped d = true
  · exact dsync_no w u n d h hs
  · exact dsync_yes w u n d h (by simpa using hs)
end Go.Proofs.YtckcbfnffmohgaaGreat
