/-
  Walks of slices.Clone at pages, bytes.Clone, (*Disk).Read, Sync. Condition: the disk lies in memory as 'DAt' says.
-/
import Derived.Test.YtenjblonepegfaaDoorDk1
import Derived.Deep.RegionHeld3
import Derived.Deep.DrawnRows
namespace Go.Proofs.YtenjblonepegfaaDoor
open Go Go.RowKit

/-- 'append([]T{}, s...)', s not empty. -/
theorem wpList_clone {P : Program} (W : World) {ops : Array Oper} {rest : List Oper} {o : Oper} {a : Act} {Q : Exit → Act → World → Prop} (hgd : o.guard = none) (s x : Operand) (t : TypeId)
    (ho : o.op = .call { callee := .builtin .append, args := #[s, x], argTypes := #[t, t] })
    (e : TypeId) (z : Value) (size bytes : Nat) (ht : P.underlying t = some (.slice e)) (hinfo : (P.info? e).map (fun i => (i.zero, i.size, i.bytes)) = some (some z, size, bytes)) (hzs : z.cells.size = size) (hsz : 0 < size)
    (hs : a.eval s = .slice (some ⟨W.heap.size, 0, none⟩) 0 0)
    (ad : Addr) (m c : Nat) (news : List Value) (hx : a.eval x = .slice (some ad) m c) (hm : 0 < m) (hl : news.length = m * size) (hnews : ∀ j u, news[j]? = some u → (W.alloc (.cells #[] e)).cell? (ad.add j) = some u) (h1 : ∀ u ∈ news, u.oneCell' = true)
    (hb : m ≤ 1000000 ∧ bytes ≤ 1000)
    (h : ∀ g cap w', W.heap.size ≤ g → w'.ownsRow 0 e size (.slice (some ⟨g, 0, none⟩) m cap) m news → Below W.heap.size W w' → wpList P ops Q rest (a.put o.dst (.slice (some ⟨g, 0, none⟩) m cap)) w') : wpList P ops Q (o :: rest) a (W.alloc (.cells #[] e)) := by
  obtain ⟨i, hi, hz0, hz1, hz2⟩ := info_parts hinfo
  have hmul : (0 + m) * bytes ≤ 140737488355328 := Nat.le_trans (Nat.mul_le_mul (show 0 + m ≤ 1000000 by omega) hb.2) (by decide)
  have hown : (W.alloc (.cells #[] e)).ownsRow 0 e size (.slice (some ⟨W.heap.size, 0, none⟩) 0 0) 0 [] := World.ownsRow_lit W #[] 0 (Nat.zero_le _) (by unfold maxLen; omega) (by simp)
  refine wpList_append_own_at _ hgd s x t ho 0 e i z size bytes ht hi hz0 hz1 hz2 hzs hsz _ 0 [] hs hown ad m c news hx hl hnews h1 (by unfold maxLen; omega) hmul (Nat.zero_le _) ?_
  intro v' w' hown' hgr _ hat
  rw [List.nil_append, Nat.zero_add] at hown'
  obtain ⟨g, cap, rfl, _, _⟩ := own_form hown' hm
  simp [Value.ownBlock] at hat
  refine h g cap w' (by omega) hown' ?_
  have c1 := ((Chg.of_below (Below.refl W.heap.size W)).alloc (.cells #[] e)).trans (Chg.of_grown hgr) (S' := fun k => some k = (Value.slice (some ⟨W.heap.size, 0, none⟩) 0 0).ownBlock) (fun k _ hk => by simp [Value.ownBlock] at hk; omega)
  exact c1.below (Nat.le_refl _) (fun k _ hk => hk)

theorem pagesV_one {ps : List DK.Pg} : ∀ u ∈ DK.pagesV ps, u.oneCell' = true := by
  intro u hu
  simp only [DK.pagesV, rowsOf, List.mem_flatMap] at hu
  obtain ⟨p, _, hp⟩ := hu
  simp only [DK.pgv, List.mem_map] at hp
  obtain ⟨x, _, rfl⟩ := hp
  rfl
theorem pgv_one {p : DK.Pg} : ∀ u ∈ DK.pgv p, u.oneCell' = true := by
  intro u hu
  simp only [DK.pgv, List.mem_map] at hu
  obtain ⟨x, _, rfl⟩ := hu
  rfl
/-- What Clone of pages leaves. -/
def PClone (w : World) (n : Nat) (xs : List Value) (e : Ending) (w' : World) : Prop := ∃ g c, e = .returned (.slice (some ⟨g, 0, none⟩) n c) ∧ w.heap.size ≤ g ∧ w'.ownsRow 0 124 32 (.slice (some ⟨g, 0, none⟩) n c) n xs ∧ Below w.heap.size w w'
set_option maxHeartbeats 400000 in
set_option maxRecDepth 100000 in
theorem pclone_any (w : World) (g n c : Nat) (ps : List DK.Pg) (hn : 0 < n) (hn2 : n ≤ 80) (h : w.ownsRow 0 124 32 (.slice (some ⟨g, 0, none⟩) n c) n (DK.pagesV ps)) :
    Calls Tryd.prog 64 #[.slice (some ⟨g, 0, none⟩) n c] w (PClone w n (DK.pagesV ps)) := by
  obtain ⟨X, hX⟩ : ∃ X, X = DK.pagesV ps := ⟨_, rfl⟩
  have h1 : Hid (∀ u ∈ X, u.oneCell' = true) := by subst hX; exact pagesV_one
  rw [← hX] at h ⊢
  have HH := Lib.hid h
  have HS : Hid (∀ j u, X[j]? = some u → (w.alloc (.cells #[] 124)).cell? ((⟨g, 0, none⟩ : Addr).add j) = some u) := fun j u hj => (h.alloc (.cells #[] 124)).cells (g := g) rfl j u hj
  have HL : Hid (X.length = n * 32) := h.1
  clear h hX
  have u87 := fun w a n c n' c' => Lib.run_eql_slice_nil (P := Tryd.prog) w 115 124 a n c n' c' Tryd.underlying115
  go_enter Tryd.func64, Tryd.ntmps64
  go_wp2_with (at_builtin; refine wpList_clone w rfl (.tmp 5) (.tmp 6) 115 rfl 124 (.agg (List.replicate 32 (Value.int .u8 0)).toArray) 32 32 Tryd.underlying115 infoPage (by rfl) (by decide) rfl ⟨g, 0, none⟩ n c X rfl hn HL.out HS.out h1.out ⟨by omega, by omega⟩ ?_; intro g' c' w' hg ho hb)
  go_ret
  exact ⟨g', c', rfl, hg, ho, hb⟩

theorem infoByte : (Tryd.prog.info? 5).map (fun i => (i.zero, i.size, i.bytes)) = some (some (.int .u8 0), 1, 1) := by kernel_rfl
/-- What Clone of bytes leaves. -/
def BClone (w : World) (n : Nat) (xs : List Value) (e : Ending) (w' : World) : Prop := ∃ g c, e = .returned (.slice (some ⟨g, 0, none⟩) n c) ∧ w.heap.size ≤ g ∧ w'.ownsRow 0 5 1 (.slice (some ⟨g, 0, none⟩) n c) n xs ∧ Below w.heap.size w w'
set_option maxHeartbeats 400000 in
set_option maxRecDepth 100000 in
theorem bclone_any (w : World) (g o n c : Nat) (p : DK.Pg) (hn : 0 < n) (hn2 : n ≤ 100000) (hl : p.length = n) (h : w.rangeAt g o (DK.pgv p)) :
    Calls Tryd.prog 66 #[.slice (some ⟨g, o, none⟩) n c] w (BClone w n (DK.pgv p)) := by
  obtain ⟨X, hX⟩ : ∃ X, X = DK.pgv p := ⟨_, rfl⟩
  have h1 : Hid (∀ u ∈ X, u.oneCell' = true) := by subst hX; exact pgv_one
  have HL : Hid (X.length = n * 1) := by subst hX; simp [DK.pgv, hl, Hid]
  rw [← hX] at h ⊢
  have HS : Hid (∀ j u, X[j]? = some u → (w.alloc (.cells #[] 5)).cell? ((⟨g, o, none⟩ : Addr).add j) = some u) := fun j u hj => by
    rw [Addr.add_mid]; exact (World.rangeAt_alloc h (.cells #[] 5)) j u hj
  clear h hX
  have u48 := fun w a n c n' c' => Lib.run_eql_slice_nil (P := Tryd.prog) w 33 5 a n c n' c' Tryd.underlying33
  go_enter Tryd.func66, Tryd.ntmps66
  go_wp2_with (at_builtin; refine wpList_clone w rfl (.tmp 5) (.tmp 6) 33 rfl 5 (.int .u8 0) 1 1 Tryd.underlying33 infoByte (by rfl) (by decide) rfl ⟨g, o, none⟩ n c X rfl hn HL.out HS.out h1.out ⟨by omega, by omega⟩ ?_; intro g' c' w' hg ho hb)
  go_ret
  exact ⟨g', c', rfl, hg, ho, hb⟩

theorem DAt.now_range {w : World} {u : Dsk} {n : Nat} {d : DK.D} (h : DAt w u n d) {i : Nat} {p : DK.Pg} (hp : d.now[i]? = some p) : w.rangeAt u.gn (i * 32) (DK.pgv p) :=
  own_range h.rn (fun _ _ hv => rowsOf_get h.ok.pl hp hv)
set_option maxHeartbeats 400000 in
set_option maxRecDepth 100000 in
theorem dread_no (w : World) (u : Dsk) (n : Nat) (d : DK.D) (h : DAt w u n d) (i : Int) (hi : i < 0 ∨ (n : Int) ≤ i) :
    Calls Tryd.prog 21 #[.pointer (some ⟨u.g, 0, none⟩), .int .i64 i] w fun e w' => e = .returned (.tuple #[.slice none 0 0, derrV 1]) ∧ Below w.heap.size w w' := by
  have c1 : w.cell? ⟨u.g, 1, none⟩ = some (.slice (some ⟨u.gn, 0, none⟩) n u.cn) := h.blk.cell 1
  have hle := h.le
  clear h
  by_cases h1 : i < 0
  · clear hi
    go_enter Tryd.func21, Tryd.ntmps21
    go_wp2
    go_ret2
    exact ⟨rfl, Below.refl _ _⟩
  · have h2 : (n : Int) ≤ i := by omega
    clear hi
    go_enter Tryd.func21, Tryd.ntmps21
    go_wp2
    go_ret2
    exact ⟨rfl, Below.refl _ _⟩
/-- What Read leaves. -/
def DRead (w : World) (p : DK.Pg) (e : Ending) (w' : World) : Prop := ∃ g c, e = .returned (.tuple #[.slice (some ⟨g, 0, none⟩) 32 c, .nilIface]) ∧ w.heap.size ≤ g ∧ w'.ownsRow 0 5 1 (.slice (some ⟨g, 0, none⟩) 32 c) 32 (DK.pgv p) ∧ Below w.heap.size w w'
set_option maxHeartbeats 400000 in
set_option maxRecDepth 100000 in
theorem dread_yes (w : World) (u : Dsk) (n : Nat) (d : DK.D) (h : DAt w u n d) (i : Nat) (p : DK.Pg) (hp : d.now[i]? = some p) :
    Calls Tryd.prog 21 #[.pointer (some ⟨u.g, 0, none⟩), .int .i64 i] w (DRead w p) := by
  have c1 : w.cell? ⟨u.g, 1, none⟩ = some (.slice (some ⟨u.gn, 0, none⟩) n u.cn) := h.blk.cell 1
  have hle := h.le
  have hi : i < n := by have := (List.getElem?_eq_some_iff.1 hp).1; rwa [h.ok.ln] at this
  have HR := Lib.hid (h.now_range hp)
  have HL := Lib.hid (h.ok.np p (List.mem_of_getElem? hp))
  have h1 : ¬ ((i : Int) < 0) := by omega
  have h2 : decide ((n : Int) ≤ (i : Int)) = false := by simp only [decide_eq_false_iff_not]; omega
  clear h hp
  go_enter Tryd.func21, Tryd.ntmps21
  go_wp2_with fail
  refine (bclone_any w u.gn (i * 32) 32 32 p (by omega) (by omega) HL.out HR.out).mono ?_
  rintro e w' ⟨g, c, rfl, hg, ho, hb⟩
  go_wp2
  go_ret2
  exact ⟨g, c, rfl, hg, ho, hb⟩
end Go.Proofs.YtenjblonepegfaaDoor
