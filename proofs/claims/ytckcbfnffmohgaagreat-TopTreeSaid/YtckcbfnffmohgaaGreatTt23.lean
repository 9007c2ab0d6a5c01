/-
  Walk of (*Disk).Write. Condition: the disk lies in memory as 'DAt' says, the bytes as 'BytesAt'.
  Walk of (*Disk).Write where it writes. Condition: the disk lies in memory as 'DAt' says, the bytes as 'BytesAt', not in the disk's own block.
  Walk of (*Disk).Crash. Condition: the disk lies in memory as 'DAt' says, the row 'keep' as 'IntsAt', not in the disk's blocks.
  Walk of (*Disk).Crash, its loop. Condition: the disk lies in memory as 'DAt' says, the row 'keep' as 'IntsAt', not in the disk's blocks.
  (*Disk).Write and Read for every argument, and strings of pages, as the laws ask them. Condition: the disk lies in memory as 'DAt' says, the bytes as 'BytesAt', not in the disk's own block.
  disk.Fail, disk.Pages. Condition: the disk lies as 'DAt' says.
-/
import Derived.Test.YtckcbfnffmohgaaGreatTt21
import Derived.Test.YtckcbfnffmohgaaGreatTt22
import Derived.Deep.RegionHeldLaw
import Derived.Laws.BytesArg
import Derived.Test.YtckcbfnffmohgaaGreatTt5
namespace Go.Proofs.YtckcbfnffmohgaaGreat
open Go Go.RowKit

/-- What Write answers. -/
def wrErr (n : Nat) (d : DK.D) (i : Int) (b : List Int) : Option Int :=
  if i < 0 ∨ (n : Int) ≤ i then some 1 else if 32 < b.length then some 3 else if DK.stopped d then some 8 else none
def wrTo (n : Nat) (d : DK.D) (i : Int) (b : List Int) : DK.D :=
  if i < 0 ∨ (n : Int) ≤ i then d else if 32 < b.length then d else if DK.stopped d then DK.step d else DK.write (DK.step d) i.toNat b
def optErr : Option Int → Value
  | none => .nilIface
  | some k => derrV k
/-- What Write leaves. -/
def DWrite (w : World) (u : Dsk) (n : Nat) (d : DK.D) (i : Int) (b : List Int) (e : Ending) (w' : World) : Prop :=
  ∃ u' : Dsk, e = .returned (optErr (wrErr n d i b)) ∧ DAt w' u' n (wrTo n d i b) ∧ DMoved w u u' w'
theorem DMoved.refl (w : World) (u : Dsk) : DMoved w u u w := ⟨rfl, Chg.refl _ _, fun _ h => .inl h⟩
theorem wr_range {w : World} {u : Dsk} {n : Nat} {d : DK.D} {i : Int} {b : List Int} (h : DAt w u n d) (hi : i < 0 ∨ (n : Int) ≤ i) : DWrite w u n d i b (.returned (derrV 1)) w :=
  ⟨u, by simp [wrErr, hi, optErr], by simp [wrTo, hi]; exact h, DMoved.refl w u⟩
theorem wr_full {w : World} {u : Dsk} {n : Nat} {d : DK.D} {i : Int} {b : List Int} (h : DAt w u n d) (hi : ¬ (i < 0 ∨ (n : Int) ≤ i)) (hb : 32 < b.length) : DWrite w u n d i b (.returned (derrV 3)) w :=
  ⟨u, by simp [wrErr, hi, hb, optErr], by simp [wrTo, hi, hb]; exact h, DMoved.refl w u⟩
theorem wr_down {w w1 : World} {u : Dsk} {n : Nat} {d : DK.D} {i : Int} {b : List Int} (hi : ¬ (i < 0 ∨ (n : Int) ≤ i)) (hb : ¬ 32 < b.length) (hs : DK.stopped d = true) (h1 : DAt w1 u n (DK.step d)) (c1 : Chg (fun k => k = u.g) w w1) : DWrite w u n d i b (.returned (derrV 8)) w1 :=
  ⟨u, by simp [wrErr, hi, hb, hs, optErr], by simp [wrTo, hi, hb, hs]; exact h1, rfl, c1.mono (fun k _ hk => .inl hk), fun k hk => .inl hk⟩

theorem put_cells (b : List Int) : splice (DK.pgv DK.zero) 0 (DK.pgv b) = DK.pgv (DK.put b) := by
  simp [splice, DK.pgv, DK.put]

set_option maxHeartbeats 400000 in
theorem dwrite_no (w : World) (u : Dsk) (n : Nat) (d : DK.D) (h : DAt w u n d) (i : Int) (hi : i < 0 ∨ (n : Int) ≤ i) (A : Option Addr) (m c : Nat) (b : List Int) :
    Calls Tryz.prog 68 #[.pointer (some ⟨u.g, 0, none⟩), .int .i64 i, .slice A m c] w (DWrite w u n d i b) := by
  have c1 : w.cell? ⟨u.g, 1, none⟩ = some (.slice (some ⟨u.gn, 0, none⟩) n u.cn) := h.blk.cell 1
  have HE : Hid (DWrite w u n d i b (.returned (derrV 1)) w) := wr_range h hi
  have hle := h.le
  clear h
  by_cases h1 : i < 0
  · clear hi
    go_enter Tryz.func68, Tryz.ntmps68
    go_wp2
    go_ret
    exact HE.out
  · have h2 : (n : Int) ≤ i := by omega
    clear hi
    go_enter Tryz.func68, Tryz.ntmps68
    go_wp2
    go_ret
    exact HE.out
set_option maxHeartbeats 400000 in
theorem dwrite_full (w : World) (u : Dsk) (n : Nat) (d : DK.D) (h : DAt w u n d) (i : Int) (hi : ¬ (i < 0 ∨ (n : Int) ≤ i)) (A : Option Addr) (m c : Nat) (b : List Int) (hm : b.length = m) (hb : 32 < m) :
    Calls Tryz.prog 68 #[.pointer (some ⟨u.g, 0, none⟩), .int .i64 i, .slice A m c] w (DWrite w u n d i b) := by
  have c1 : w.cell? ⟨u.g, 1, none⟩ = some (.slice (some ⟨u.gn, 0, none⟩) n u.cn) := h.blk.cell 1
  have HE : Hid (DWrite w u n d i b (.returned (derrV 3)) w) := wr_full h hi (by omega)
  have hle := h.le
  clear h
  have h1 : ¬ (i < 0) := by omega
  have h2 : decide ((n : Int) ≤ i) = false := by simp only [decide_eq_false_iff_not]; omega
  have h3 : (32 : Int) < (m : Int) := by omega
  clear hi hm
  go_enter Tryz.func68, Tryz.ntmps68
  go_wp2
  go_ret
  exact HE.out
set_option maxHeartbeats 400000 in
theorem dwrite_down (w : World) (u : Dsk) (n : Nat) (d : DK.D) (h : DAt w u n d) (i : Int) (hi : ¬ (i < 0 ∨ (n : Int) ≤ i)) (A : Option Addr) (m c : Nat) (b : List Int) (hm : b.length = m) (hb : m ≤ 32) (hs : DK.stopped d = true) :
    Calls Tryz.prog 68 #[.pointer (some ⟨u.g, 0, none⟩), .int .i64 i, .slice A m c] w (DWrite w u n d i b) := by
  have c1 : w.cell? ⟨u.g, 1, none⟩ = some (.slice (some ⟨u.gn, 0, none⟩) n u.cn) := h.blk.cell 1
  have hle := h.le
  have HH := Lib.hid h
  have HS := Lib.hid hs
  have HI := Lib.hid hi
  have HM := Lib.hid hm
  clear h hs
  have h1 : ¬ (i < 0) := by omega
  have h2 : decide ((n : Int) ≤ i) = false := by simp only [decide_eq_false_iff_not]; omega
  have h3 : decide ((32 : Int) < (m : Int)) = false := by simp only [decide_eq_false_iff_not]; omega
  clear hi hm
  go_enter Tryz.func68, Tryz.ntmps68
  go_wp2_with fail
  refine (dstep_any w u n d HH.out).mono ?_
  rintro e w1 ⟨rfl, k1, q1⟩
  have K1 := Lib.hid k1
  have Q1 := Lib.hid q1
  clear k1 q1
  rw [HS.out]
  go_wp2
  go_ret
  exact wr_down HI.out (by have := HM.out; omega) HS.out K1.out Q1.out

/-- A write's cells built of its place and its page. -/
theorem run_write_built (X : List Value) (hX : X.length = 32) (i : Nat) (w : World) : (Instr.build 183 #[(0, .int .i64 (i : Int)), (1, .agg X.toArray)]).run Tryz.prog w = .ok (.agg (Value.int .i64 (i : Int) :: X).toArray) w := by
  refine run_build w _ _ _ ?_
  match X, hX with
  | [a0, a1, a2, a3, a4, a5, a6, a7, a8, a9, b0, b1, b2, b3, b4, b5, b6, b7, b8, b9, c0, c1, c2, c3, c4, c5, c6, c7, c8, c9, d0, d1], _ => exact (by show Tryz.prog.built _ _ = some _; kernel_rfl)

theorem infoWrite : (Tryz.prog.info? 183).map (fun i => (i.zero, i.size, i.bytes)) = some (some (.agg (Value.int .i64 0 :: List.replicate 32 (Value.int .u8 0)).toArray), 33, 40) := by kernel_rfl
theorem fold_write (i : Nat) (X : List Value) (hX : X.length = 32) : List.foldl (fun (cs : Array Value) (x : Value × Nat) => cs.setIfInBounds (1 + x.snd) x.fst) #[Value.int .i64 (i : Int), Value.int .u8 0, Value.int .u8 0, Value.int .u8 0, Value.int .u8 0, Value.int .u8 0, Value.int .u8 0, Value.int .u8 0, Value.int .u8 0, Value.int .u8 0, Value.int .u8 0, Value.int .u8 0, Value.int .u8 0, Value.int .u8 0, Value.int .u8 0, Value.int .u8 0, Value.int .u8 0, Value.int .u8 0, Value.int .u8 0, Value.int .u8 0, Value.int .u8 0, Value.int .u8 0, Value.int .u8 0, Value.int .u8 0, Value.int .u8 0, Value.int .u8 0, Value.int .u8 0, Value.int .u8 0, Value.int .u8 0, Value.int .u8 0, Value.int .u8 0, Value.int .u8 0, Value.int .u8 0] X.zipIdx = (Value.int .i64 (i : Int) :: X).toArray := by
  match X, hX with
  | [a0, a1, a2, a3, a4, a5, a6, a7, a8, a9, b0, b1, b2, b3, b4, b5, b6, b7, b8, b9, c0, c1, c2, c3, c4, c5, c6, c7, c8, c9, d0, d1], _ => exact (by show List.foldl _ _ _ = List.toArray _; kernel_rfl)
theorem fold_slice (Y : List Value) (hY : Y.length = 33) : List.foldl (fun (cs : Array Value) (x : Value × Nat) => cs.setIfInBounds x.snd x.fst) #[Value.int .i64 0, Value.int .u8 0, Value.int .u8 0, Value.int .u8 0, Value.int .u8 0, Value.int .u8 0, Value.int .u8 0, Value.int .u8 0, Value.int .u8 0, Value.int .u8 0, Value.int .u8 0, Value.int .u8 0, Value.int .u8 0, Value.int .u8 0, Value.int .u8 0, Value.int .u8 0, Value.int .u8 0, Value.int .u8 0, Value.int .u8 0, Value.int .u8 0, Value.int .u8 0, Value.int .u8 0, Value.int .u8 0, Value.int .u8 0, Value.int .u8 0, Value.int .u8 0, Value.int .u8 0, Value.int .u8 0, Value.int .u8 0, Value.int .u8 0, Value.int .u8 0, Value.int .u8 0, Value.int .u8 0] Y.zipIdx = Y.toArray := by
  match Y, hY with
  | y :: X, h =>
    match X, (show X.length = 32 by simpa using h) with
    | [a0, a1, a2, a3, a4, a5, a6, a7, a8, a9, b0, b1, b2, b3, b4, b5, b6, b7, b8, b9, c0, c1, c2, c3, c4, c5, c6, c7, c8, c9, d0, d1], _ => exact (by show List.foldl _ _ _ = List.toArray _; kernel_rfl)
end Go.Proofs.YtckcbfnffmohgaaGreat
namespace Go.Proofs.YtckcbfnffmohgaaGreat
open Go Go.RowKit

theorem cell_setCells_far {w : World} {p : Addr} {v : Value} (h : w.cell? p = some v) {b : Nat} (hb : p.block ≠ b) (o : Nat) (vs : List Value) : (w.setCells b o vs).cell? p = some v := by
  rw [World.cell?_setCells_out b vs o w p (fun e _ => absurd e hb)]; exact h
theorem byteSize : (Tryz.prog.info? 5).map (·.size) = some 1 := by kernel_rfl
/-- What the copy of a page's bytes asks. -/
def CopyOk (w : World) (A : Option Addr) (b : List Int) (m H : Nat) : Prop :=
  (DK.pgv b).length = Nat.min m 32 ∧ (0 < (DK.pgv b).length → (some (⟨H, 0, none⟩ : Addr)) = some ⟨H, 0, none⟩ ∧ ∃ ad, A = some ad ∧ ∀ j v, (DK.pgv b)[j]? = some v → w.cell? (ad.add j) = some v)
theorem bytes_copy {w : World} {A : Option Addr} {b : List Int} {m : Nat} (h : BytesAt w A b) (hm : b.length = m) (h32 : m ≤ 32) (H : Nat) : CopyOk w A b m H := by
  have e : (DK.pgv b).length = m := by simp [DK.pgv, hm]
  refine ⟨by rw [e]; exact (Nat.min_eq_left h32).symm, fun hp => ⟨rfl, ?_⟩⟩
  rcases h with h | ⟨bb, off, rfl, _, hx⟩
  · subst h; simp [DK.pgv] at hp
  · refine ⟨_, rfl, fun j v hv => ?_⟩
    simp only [DK.pgv, List.getElem?_map, Option.map_eq_some_iff] at hv
    obtain ⟨x, h1, rfl⟩ := hv
    rw [Addr.add_mid]; exact hx j x h1
/-- The page at a place is set. -/
theorem DAt.setNow {w : World} {u : Dsk} {n : Nat} {d : DK.D} (h : DAt w u n d) {i : Nat} (hi : i < n) {p : DK.Pg} (hp : p.length = 32) : DAt (w.setCells u.gn (i * 32) (DK.pgv p)) u n { d with now := d.now.set i p } := by
  have c : Chg (fun k => k = u.gn) w (w.setCells u.gn (i * 32) (DK.pgv p)) := chg_setCells _ _ _ (Chg.refl _ _) (fun _ => rfl)
  have hl : i < d.now.length := by rw [h.ok.ln]; exact hi
  have hr := own_setCells (DK.pgv p) (i * 32) w _ h.rn (by rw [DK.pgv_len hp, DK.pagesV, rowsOf_len h.ok.pl, h.ok.ln]; omega)
  rw [DK.pagesV, rowsOf_set h.ok.pl hl (DK.pgv_len hp)] at hr
  refine ⟨⟨h.ok.lk, by simpa using h.ok.ln, h.ok.kp, ?_, h.ok.wp, h.ok.left⟩, h.pos, h.le, h.blk.chg c (fun e => h.ggn e.symm), own_chg h.rk c (by intro k hk; simp [Value.ownBlock] at hk; have := h.n1; omega), hr, own_chg h.rw c (by rintro k hk rfl; exact h.gwn hk), h.n1⟩
  intro q hq
  rcases DK.mem_set hq with hq | rfl
  · exact h.ok.np q hq
  · exact hp
/-- The writes are one more. -/
theorem DAt.setWs {w w4 : World} {u : Dsk} {n : Nat} {d : DK.D} (h : DAt w u n d) {i : Nat} (hi : i < n) {p : DK.Pg} (hp : p.length = 32) {o : Obj} {g c : Nat}
    (hr : w4.ownsRow 0 183 33 (.slice (some ⟨g, 0, none⟩) (d.ws.length + 1) c) (d.ws.length + 1) (DK.writesV d.ws ++ DK.wrv (i, p))) (hg : (w.alloc o).drew.grownBy w4 u.wv.ownBlock) (hat : u.wv.ownBlock = some g ∨ g = w.heap.size + 1) :
    DAt (w4.setCell ⟨u.g, 2, none⟩ (.slice (some ⟨g, 0, none⟩) (d.ws.length + 1) c)) ⟨u.g, u.gk, u.ck, u.gn, u.cn, .slice (some ⟨g, 0, none⟩) (d.ws.length + 1) c⟩ n { d with ws := d.ws ++ [(i, p)] } ∧
    Chg u.fp w (w4.setCell ⟨u.g, 2, none⟩ (.slice (some ⟨g, 0, none⟩) (d.ws.length + 1) c)) := by
  have c1 : Chg (fun k => u.wv.ownBlock = some k) w w4 := (((Chg.refl _ w).alloc o).drew).trans ((Chg.of_grown hg).mono (fun k _ hk => hk.symm)) (fun _ _ h => h)
  have hug : u.g < w.heap.size := h.lt (.inl rfl)
  have hge : u.g ≠ g := by rcases hat with h' | h'; (rintro rfl; exact h.ggw h'); omega
  have hw : DK.writesV d.ws ++ DK.wrv (i, p) = DK.writesV (d.ws ++ [(i, p)]) := by rw [DK.writesV, DK.writesV, rowsOf_app, rowsOf_one]
  rw [hw] at hr
  refine ⟨⟨⟨h.ok.lk, h.ok.ln, h.ok.kp, h.ok.np, ?_, h.ok.left⟩, h.pos, h.le, by simpa using (h.blk.chg c1 h.ggw).set_ 2 (.slice (some ⟨g, 0, none⟩) (d.ws.length + 1) c), ?_, ?_, ?_, h.n1⟩, ?_⟩
  · intro x hx
    simp at hx
    rcases hx with hx | rfl
    · exact h.ok.wp x hx
    · exact ⟨hp, hi⟩
  · exact own_far (own_chg h.rk c1 (by intro k hk; simp [Value.ownBlock] at hk; subst hk; exact h.gwk)) (by simpa [Value.ownBlock] using h.ggk) _
  · exact own_far (own_chg h.rn c1 (by intro k hk; simp [Value.ownBlock] at hk; subst hk; exact h.gwn)) (by simpa [Value.ownBlock] using h.ggn) _
  · show World.ownsRow _ _ _ _ _ (d.ws ++ [(i, p)]).length _
    rw [List.length_append]
    exact own_far hr (by simp [Value.ownBlock]; omega) _
  · exact (c1.mono (fun k _ hk => .inr (.inr (.inr hk)))).setCell (p := ⟨u.g, 2, none⟩) (fun _ => .inl rfl) _
theorem range_grown {w w' : World} {row : Option Nat} {b o : Nat} {cs : List Value} (h : w.rangeAt b o cs) (hg : w.grownBy w' row) (hn : some b ≠ row) : w'.rangeAt b o cs := fun j v hv => hg.cell (h j v hv) hn
theorem news_new {w : World} {H : Nat} (hH : w.heap.size = H) (Y : List Value) (t : TypeId) : ∀ j u, Y[j]? = some u → (w.alloc (.cells Y.toArray t)).cell? ((⟨H, 0, none⟩ : Addr).add j) = some u := by
  subst hH
  intro j u hj
  rw [Addr.add_mid, Nat.zero_add, cell_of_row _ _ j Y.toArray t (0, 0) (heap_alloc_new w _)]
  simpa using hj
theorem wpList_copy_page {P : Program} (W : World) {ops : Array Oper} {rest : List Oper} {o : Oper} {a : Act} {Q : Exit → Act → World → Prop} (hgd : o.guard = none) (d s : Operand) (dT : TypeId)
    (ho : o.op = .call { callee := .builtin .copy, args := #[d, s], argTypes := #[dT, dT] }) (elem : TypeId) (hu : P.underlying dT = some (.slice elem)) (hsz : (P.info? elem).map (·.size) = some 1) (t : TypeId)
    (A : Option Addr) (m c : Nat) (b : List Int) (hd : a.eval d = .slice (some ⟨W.heap.size, 0, none⟩) 32 32) (hs : a.eval s = .slice A m c) (hok : ∀ w', Below W.heap.size W w' → CopyOk w' A b m W.heap.size) (hlen : b.length ≤ 32)
    (h : ∀ w', Hid (w'.heap[W.heap.size]? = some (.cells (DK.pgv (DK.put b)).toArray t (0, 0))) → Below W.heap.size W w' → wpList P ops Q rest (a.put o.dst (goInt (DK.pgv b).length)) w') :
    wpList P ops Q (o :: rest) a (W.alloc (.cells #[.int .u8 0, .int .u8 0, .int .u8 0, .int .u8 0, .int .u8 0, .int .u8 0, .int .u8 0, .int .u8 0, .int .u8 0, .int .u8 0, .int .u8 0, .int .u8 0, .int .u8 0, .int .u8 0, .int .u8 0, .int .u8 0, .int .u8 0, .int .u8 0, .int .u8 0, .int .u8 0, .int .u8 0, .int .u8 0, .int .u8 0, .int .u8 0, .int .u8 0, .int .u8 0, .int .u8 0, .int .u8 0, .int .u8 0, .int .u8 0, .int .u8 0, .int .u8 0] t)) := by
  have hz : #[.int .u8 0, .int .u8 0, .int .u8 0, .int .u8 0, .int .u8 0, .int .u8 0, .int .u8 0, .int .u8 0, .int .u8 0, .int .u8 0, .int .u8 0, .int .u8 0, .int .u8 0, .int .u8 0, .int .u8 0, .int .u8 0, .int .u8 0, .int .u8 0, .int .u8 0, .int .u8 0, .int .u8 0, .int .u8 0, .int .u8 0, .int .u8 0, .int .u8 0, .int .u8 0, .int .u8 0, .int .u8 0, .int .u8 0, .int .u8 0, .int .u8 0, .int .u8 0] = (DK.pgv DK.zero).toArray := by kernel_rfl
  rw [hz]
  have hb : Below W.heap.size W (W.alloc (.cells (DK.pgv DK.zero).toArray t)) := (Below.refl _ _).alloc (Nat.le_refl _) _
  refine wpList_copy_splice hgd d s dT dT ho elem hu hsz _ A 32 32 m c hd hs W.heap.size 0 (DK.pgv DK.zero) t (heap_alloc_new _ _) (DK.pgv b) (hok _ hb).1 (hok _ hb).2 (by simp [DK.pgv, DK.zero]; exact hlen) pgv_one W.heap.size W hb (Nat.le_refl _) ?_
  intro w' hg hbe
  rw [put_cells] at hg
  exact h w' hg hbe

theorem wr_yes {w w5 : World} {u u' : Dsk} {n : Nat} {d : DK.D} {i : Nat} {b : List Int} (hi : i < n) (hb : b.length ≤ 32) (hs : DK.stopped d = false) (h5 : DAt w5 u' n (DK.write (DK.step d) i b)) (hm : DMoved w u u' w5) : DWrite w u n d i b (.returned .nilIface) w5 := by
  have h1 : ¬ ((i : Int) < 0 ∨ (n : Int) ≤ i) := by omega
  have h2 : ¬ 32 < b.length := by omega
  exact ⟨u', by simp only [wrErr, if_neg h1, if_neg h2, hs]; rfl, by simp only [wrTo, if_neg h1, if_neg h2, hs]; exact h5, hm⟩
theorem wr_moved {w w1 w2 w3 w5 : World} {u : Dsk} {g c L : Nat} (q1 : Chg (fun k => k = u.g) w w1) (b2 : Below w1.heap.size w1 w2) (c3 : Chg (fun k => k = u.gn) w2 w3) (c5 : Chg u.fp w3 w5) (hat : u.wv.ownBlock = some g ∨ g = w3.heap.size + 1) :
    DMoved w u ⟨u.g, u.gk, u.ck, u.gn, u.cn, .slice (some ⟨g, 0, none⟩) L c⟩ w5 := by
  have e1 : Chg u.fp w w1 := q1.mono (fun k _ hk => .inl hk)
  have e2 : Chg u.fp w w2 := e1.trans (Chg.of_below b2) (fun i hi hS => absurd hS (by have := e1.size; omega))
  have e3 : Chg u.fp w w3 := e2.trans c3 (fun i _ hS => .inr (.inr (.inl hS)))
  have e5 : Chg u.fp w w5 := e3.trans c5 (fun _ _ h => h)
  refine ⟨rfl, e5, ?_⟩
  have := e3.size
  rintro k (h | h | h | h)
  · exact .inl (.inl h)
  · exact .inl (.inr (.inl h))
  · exact .inl (.inr (.inr (.inl h)))
  · simp [Value.ownBlock] at h
    subst h
    rcases hat with h' | h'
    · exact .inl (.inr (.inr (.inr h')))
    · right; omega

set_option linter.unusedSimpArgs false in
set_option maxHeartbeats 1000000 in
set_option maxRecDepth 100000 in
theorem dwrite_yes (w : World) (u : Dsk) (n : Nat) (d : DK.D) (h : DAt w u n d) (i : Nat) (hi : i < n) (A : Option Addr) (m c : Nat) (b : List Int) (hm : b.length = m) (hb : m ≤ 32) (hs : DK.stopped d = false) (hws : d.ws.length ≤ 10000)
    (hA : BytesAt w A b) (hAb : b ≠ [] → ∀ x, A = some x → x.block ≠ u.g) :
    Calls Tryz.prog 68 #[.pointer (some ⟨u.g, 0, none⟩), .int .i64 i, .slice A m c] w (DWrite w u n d i b) := by
  have c1 : w.cell? ⟨u.g, 1, none⟩ = some (.slice (some ⟨u.gn, 0, none⟩) n u.cn) := h.blk.cell 1
  have hle := h.le
  have HH := Lib.hid h
  have HS := Lib.hid hs
  have HM := Lib.hid hm
  have HA := Lib.hid hA
  have HAb := Lib.hid hAb
  have HWS := Lib.hid hws
  clear h hs hA hAb hws
  have h1 : ¬ ((i : Int) < 0) := by omega
  have h2 : decide ((n : Int) ≤ (i : Int)) = false := by simp only [decide_eq_false_iff_not]; omega
  have h3 : decide ((32 : Int) < (m : Int)) = false := by simp only [decide_eq_false_iff_not]; omega
  clear hm
  go_enter Tryz.func68, Tryz.ntmps68
  go_wp2_with fail
  refine (dstep_any w u n d HH.out).mono ?_
  rintro e w1 ⟨rfl, k1, q1⟩
  have K1 := Lib.hid k1
  have Q1 := Lib.hid q1
  have HA1 : Hid (BytesAt w1 A b) := HA.out.chg q1 HAb.out
  have HA2 : Hid (∀ w', Below w1.heap.size w1 w' → CopyOk w' A b m w1.heap.size) := fun w' hw => bytes_copy (HA1.out.ext hw) HM.out hb _
  have HLE : Hid (b.length ≤ 32) := by have := HM.out; simp only [Hid]; omega
  clear k1 q1
  rw [HS.out]
  go_wp2_with (with_reducible refine wpList_copy_page w1 rfl (.tmp 31) (.tmp 32) 95 rfl 5 Tryz.underlying95 byteSize 181 A m c b rfl rfl HA2.out HLE.out ?_; intro w2 HG2 hB2)
  have HB2 := Lib.hid hB2
  have HD2 := Lib.hid (K1.out.ext hB2)
  have d1 : w2.cell? ⟨u.g, 1, none⟩ = some (.slice (some ⟨u.gn, 0, none⟩) n u.cn) := HD2.out.blk.cell 1
  have d2 : w2.cell? ⟨u.g, 2, none⟩ = some u.wv := HD2.out.blk.cell 2
  have HNE : Hid (u.gn < w1.heap.size ∧ u.g < w1.heap.size ∧ u.g ≠ u.gn) := ⟨K1.out.lt (.inr (.inr (.inl rfl))), K1.out.lt (.inl rfl), Ne.symm K1.out.ggn⟩
  obtain ⟨X, hX⟩ : ∃ X, X = DK.pgv (DK.put b) := ⟨_, rfl⟩
  rw [← hX] at HG2
  have hXl : X.length = 32 := by rw [hX]; exact DK.pgv_len (DK.put_len (by rw [HM.out]; exact hb))
  have hX1 : ∀ v ∈ X, v.oneCell' = true := by rw [hX]; exact pgv_one
  have HX := Lib.hid hX
  have r1 : w2.rangeAt w1.heap.size 0 X := by
    have := World.rangeAt_of_block HG2.out 0 32
    rwa [show (X.toArray.extract 0 (0 + 32)).toList = X by simp [← hXl]] at this
  have r2 : w2.there u.gn (i * 32) 32 := own_there HD2.out.rn (by omega)
  have hu := Tryz.underlying181
  have hinf : (Tryz.prog.info? 181).map (·.size) = some X.length := by rw [hXl]; kernel_rfl
  have z0 : (0 : Int) ≤ (i : Int) := by omega
  have z1 : (i : Int) < (n : Int) := by omega
  have p0 : u.g ≠ w1.heap.size := by have := HNE.out.2.1; omega
  have p1 : u.g ≠ u.gn := HNE.out.2.2
  have p2 : w1.heap.size ≠ u.gn := by have := HNE.out.1; omega
  clear hX hB2
  go_region_held (fun w' => w'.cell? ⟨u.g, 1, none⟩ = some (.slice (some ⟨u.gn, 0, none⟩) n u.cn) ∧ w'.rangeAt w1.heap.size 0 X ∧ w'.there u.gn (i * 32) 32)
    ((go_split_ands; refine ⟨?_, ?_, ?_⟩ <;> first | assumption | (exact cell_setCells_far (by assumption) p1 _ _) | (exact World.rangeAt_setCells_apart (by assumption) _ _ _ (.inl p2)) | (exact World.there_setCells (by assumption) _ _ _))) (fail)
  have HD3 : Hid (DAt (w2.drew.setCells u.gn (i * 32) X) u n { DK.step d with now := (DK.step d).now.set i (DK.put b) }) := by
    rw [HX.out]; exact (HD2.out.chg ((Chg.refl (fun _ => False) w2).drew) (fun _ _ h => h)).setNow hi (DK.put_len (by rw [HM.out]; exact hb))
  have r3 : (w2.drew.setCells u.gn (i * 32) X).rangeAt w1.heap.size 0 X := World.rangeAt_setCells_apart (w := w2.drew) r1 _ _ _ (.inl p2)
  have HC3 : Hid (Chg (fun k => k = u.gn) w2 (w2.drew.setCells u.gn (i * 32) X)) := chg_setCells _ _ _ ((Chg.refl _ w2).drew) (fun _ => rfl)
  obtain ⟨w3, hw3⟩ : ∃ w3, w3 = w2.drew.setCells u.gn (i * 32) X := ⟨_, rfl⟩
  rw [← hw3] at HD3 HC3 r3
  rw [← hw3]
  obtain ⟨Y, hY⟩ : ∃ Y, Y = Value.int .i64 (i : Int) :: X := ⟨_, rfl⟩
  have hbu := fold_write i X hXl
  rw [← hY] at hbu
  have hYs : Y.length = 33 := by rw [hY]; simp [hXl]
  have hsl := fold_slice Y hYs
  have HY : Hid (Y = DK.wrv (i, DK.put b)) := by rw [hY, HX.out]; rfl
  have HYl : Hid (Y.length = 1 * 33) := by rw [hY]; simp [hXl, Hid]
  have HY1 : Hid (∀ v ∈ Y, v.oneCell' = true) := by rw [hY]; intro v hv; simp at hv; rcases hv with rfl | hv; (· rfl); exact hX1 v hv
  have e2 : w3.cell? ⟨u.g, 2, none⟩ = some u.wv := HD3.out.blk.cell 2
  have g2 := HD3.out.blk.frozen 2
  have HWL : Hid ((DK.step d).ws.length ≤ 10000) := by have := HWS.out; unfold Hid DK.step; split <;> exact this
  have HRW : Hid (∀ o : Obj, (w3.alloc o).drew.ownsRow 0 183 33 u.wv (DK.step d).ws.length (DK.writesV (DK.step d).ws)) := fun o => own_drew (HD3.out.rw.alloc o)
  have HNW : Hid (∀ j u', Y[j]? = some u' → (w3.alloc (.cells Y.toArray 183)).drew.cell? ((⟨w3.heap.size, 0, none⟩ : Addr).add j) = some u') := news_new (w := w3) rfl Y _
  have HPW : Hid (some w1.heap.size ≠ u.wv.ownBlock) := by
    intro e
    have := own_lt K1.out.rw e.symm
    omega
  have HKA : Hid (∀ o : Obj, (w3.alloc o).drew.cell? ⟨u.g, 2, none⟩ = some u.wv ∧ (w3.alloc o).drew.rangeAt w1.heap.size 0 X) := fun o => ⟨(HD3.out.blk.alloc o).drew.cell 2, World.rangeAt_alloc r3 o⟩
  have HKC : Hid (∀ (o : Obj) (w' : World), (w3.alloc o).drew.grownBy w' u.wv.ownBlock → (w'.cell? ⟨u.g, 2, none⟩ = some u.wv ∧ w'.rangeAt w1.heap.size 0 X) ∧ w'.frozen? ⟨u.g, 2, none⟩ = false) := fun o w' hg => by
    have hb' := (HD3.out.blk.alloc o).drew.grown hg (by intro e; exact HD3.out.ggw e.symm)
    exact ⟨⟨hb'.cell 2, range_grown (HKA.out o).2 hg HPW.out⟩, hb'.frozen 2⟩
  have HKD : Hid (∀ (o : Obj) (w' : World), (w3.alloc o).drew.grownBy w' u.wv.ownBlock → ∀ v, (w'.setCell ⟨u.g, 2, none⟩ v).rangeAt w1.heap.size 0 X) := fun o w' hg v j x hx => by
    rw [World.cell?_setCell_other _ _ _ _ (by intro e; exact p0 (congrArg Addr.block e))]
    exact (HKC.out o w' hg).1.2 j x hx
  have q2 : ∀ o : Obj, (w3.alloc o).cell? ⟨u.g, 2, none⟩ = some u.wv := fun o => (HKA.out o).1
  clear hw3 hY r1 r2 d1 d2 c1
  obtain ⟨ti, hti, hz0, hz1, hz2⟩ := info_parts infoWrite
  have HTI := Lib.hid hti
  have HZ0 := Lib.hid hz0
  have HZ1 := Lib.hid hz1
  have HZ2 := Lib.hid hz2
  clear hti hz0 hz1 hz2
  go_wp2
  refine wp_region_held_drew (S := fun w' => w'.rangeAt w1.heap.size 0 X) (by kernel_rfl) r3 (fun hHeld => ?_)
  refine wpAnyH_take (i := 0) (v := .pointer (some ⟨u.g, 0, none⟩)) rfl (by kernel_rfl) (by kernel_rfl) (by kernel_rfl) (fun _ _ _ h => h) (Or.inl ⟨by rfl, fun w hw => by go_simp⟩) (by assumption) ?_
  try simp only [Act.put, List.setIfInBounds_toArray, List.set_cons_zero, List.set_cons_succ]
  refine wpAnyH_take (i := 1) (v := .pointer (some ⟨u.g, 0, none⟩)) rfl (by kernel_rfl) (by kernel_rfl) (by kernel_rfl) (fun _ _ _ h => h) (Or.inl ⟨by rfl, fun w hw => by go_simp⟩) (by assumption) ?_
  try simp only [Act.put, List.setIfInBounds_toArray, List.set_cons_zero, List.set_cons_succ]
  refine wpAnyH_take (i := 2) (v := .pointer (some ⟨u.g, 0, none⟩)) rfl (by kernel_rfl) (by kernel_rfl) (by kernel_rfl) (fun _ _ _ h => h) (Or.inl ⟨by rfl, fun w hw => by go_simp⟩) (by assumption) ?_
  try simp only [Act.put, List.setIfInBounds_toArray, List.set_cons_zero, List.set_cons_succ]
  refine wpAnyH_take (i := 3) (v := .pointer (some ⟨u.g, 2, none⟩)) rfl (by kernel_rfl) (by kernel_rfl) (by kernel_rfl) (fun _ _ _ h => h) (Or.inl ⟨by rfl, fun w hw => by go_simp⟩) (by assumption) ?_
  try simp only [Act.put, List.setIfInBounds_toArray, List.set_cons_zero, List.set_cons_succ]
  refine wpAnyH_take (i := 5) (v := .int .i64 i) rfl (by kernel_rfl) (by kernel_rfl) (by kernel_rfl) (fun _ _ _ h => h) (Or.inl ⟨by rfl, fun w hw => by go_simp⟩) (by assumption) ?_
  try simp only [Act.put, List.setIfInBounds_toArray, List.set_cons_zero, List.set_cons_succ]
  refine wpAnyH_take (i := 6) (v := .agg X.toArray) rfl (by kernel_rfl) (by kernel_rfl) (by kernel_rfl) (fun _ _ _ h => h) (yieldsIf_load_mid (by rfl) _ _ rfl w1.heap.size 0 rfl X _ (fun _ h => h) hu rfl hinf) (by assumption) ?_
  try simp only [Act.put, List.setIfInBounds_toArray, List.set_cons_zero, List.set_cons_succ]
  refine wpAnyH_take (i := 7) (v := .agg Y.toArray) rfl (by kernel_rfl) (by kernel_rfl) (by kernel_rfl) (fun _ _ _ h => h) (Or.inl ⟨by rfl, fun w hw => by go_simp⟩) (by assumption) ?_
  try simp only [Act.put, List.setIfInBounds_toArray, List.set_cons_zero, List.set_cons_succ]
  refine wpAnyH_ready (rs := [4, 8]) (by kernel_rfl) (by simp) ?_
  refine AllReadyH.cons rfl (fun K hK => ?_) ?_
  · go_simp
    refine hK.out _ _ hHeld (fun hHeld => ?_)
    clear hK K
    refine wpAnyH_ready (rs := [8]) (by kernel_rfl) (by simp) ?_
    refine AllReadyH.cons rfl (fun K hK => ?_) AllReadyH.nil
    go_simp
    refine hK.out _ _ (HKA.out _).2 (fun hHeld => ?_)
    clear hK K
    refine wpAnyH_ready (rs := [9]) (by kernel_rfl) (by simp) ?_
    refine AllReadyH.cons rfl (fun K hK => ?_) AllReadyH.nil
    refine step_append_lies _ (by rfl) (.tmp 45) (.tmp 49) 92 (by rfl) 0 183 ti _ 33 40 Tryz.underlying92 HTI.out HZ0.out HZ1.out HZ2.out (by rfl) (by decide) u.wv (DK.step d).ws.length (DK.writesV (DK.step d).ws) (by rfl) (HRW.out _) ⟨w3.heap.size, 0, none⟩ 1 1 Y (by rfl) HYl.out HNW.out HY1.out (by decide) (by have := HWL.out; unfold maxLen; omega) (by have := HWL.out; omega) (Nat.zero_le _) (w3.heap.size + 1) (by simp) ?_
    intro g cap w4 hown hgrow hat hlt
    obtain ⟨⟨y1, _⟩, y2⟩ := HKC.out _ _ hgrow
    refine hK.out _ _ (HKC.out _ _ hgrow).1.2 (fun hHeld => ?_)
    clear hK K
    try simp only [Act.put, List.setIfInBounds_toArray, List.set_cons_zero, List.set_cons_succ]
    refine wpAnyH_take (i := 10) (v := .pointer (some ⟨u.g, 0, none⟩)) rfl (by kernel_rfl) (by kernel_rfl) (by kernel_rfl) (fun _ _ _ h => h) (Or.inl ⟨by rfl, fun w hw => by go_simp⟩) (by assumption) ?_
    try simp only [Act.put, List.setIfInBounds_toArray, List.set_cons_zero, List.set_cons_succ]
    refine wpAnyH_take (i := 11) (v := .pointer (some ⟨u.g, 2, none⟩)) rfl (by kernel_rfl) (by kernel_rfl) (by kernel_rfl) (fun _ _ _ h => h) (Or.inl ⟨by rfl, fun w hw => by go_simp⟩) (by assumption) ?_
    try simp only [Act.put, List.setIfInBounds_toArray, List.set_cons_zero, List.set_cons_succ]
    refine wpAnyH_ready (rs := [12]) (by kernel_rfl) (by simp) ?_
    refine AllReadyH.cons rfl (fun K hK => ?_) AllReadyH.nil
    go_simp
    refine hK.out _ _ (HKD.out _ _ hgrow _) (fun hHeld => ?_)
    clear hK K
    refine wpAnyH_done (by kernel_rfl) ?_ _
    go_wp2
    go_ret
    obtain ⟨s1, s2⟩ := HD3.out.setWs hi (DK.put_len (by rw [HM.out]; exact hb)) (by rw [← HY.out]; exact hown) hgrow hat
    exact wr_yes hi (by rw [HM.out]; exact hb) HS.out s1 (wr_moved Q1.out HB2.out HC3.out s2 hat)
  · refine AllReadyH.cons rfl (fun K hK => ?_) AllReadyH.nil
    go_simp
    refine hK.out _ _ (HKA.out _).2 (fun hHeld => ?_)
    clear hK K
    refine wpAnyH_ready (rs := [4]) (by kernel_rfl) (by simp) ?_
    refine AllReadyH.cons rfl (fun K hK => ?_) AllReadyH.nil
    go_simp
    refine hK.out _ _ hHeld (fun hHeld => ?_)
    clear hK K
    refine wpAnyH_ready (rs := [9]) (by kernel_rfl) (by simp) ?_
    refine AllReadyH.cons rfl (fun K hK => ?_) AllReadyH.nil
    refine step_append_lies _ (by rfl) (.tmp 45) (.tmp 49) 92 (by rfl) 0 183 ti _ 33 40 Tryz.underlying92 HTI.out HZ0.out HZ1.out HZ2.out (by rfl) (by decide) u.wv (DK.step d).ws.length (DK.writesV (DK.step d).ws) (by rfl) (HRW.out _) ⟨w3.heap.size, 0, none⟩ 1 1 Y (by rfl) HYl.out HNW.out HY1.out (by decide) (by have := HWL.out; unfold maxLen; omega) (by have := HWL.out; omega) (Nat.zero_le _) (w3.heap.size + 1) (by simp) ?_
    intro g cap w4 hown hgrow hat hlt
    obtain ⟨⟨y1, _⟩, y2⟩ := HKC.out _ _ hgrow
    refine hK.out _ _ (HKC.out _ _ hgrow).1.2 (fun hHeld => ?_)
    clear hK K
    try simp only [Act.put, List.setIfInBounds_toArray, List.set_cons_zero, List.set_cons_succ]
    refine wpAnyH_take (i := 10) (v := .pointer (some ⟨u.g, 0, none⟩)) rfl (by kernel_rfl) (by kernel_rfl) (by kernel_rfl) (fun _ _ _ h => h) (Or.inl ⟨by rfl, fun w hw => by go_simp⟩) (by assumption) ?_
    try simp only [Act.put, List.setIfInBounds_toArray, List.set_cons_zero, List.set_cons_succ]
    refine wpAnyH_take (i := 11) (v := .pointer (some ⟨u.g, 2, none⟩)) rfl (by kernel_rfl) (by kernel_rfl) (by kernel_rfl) (fun _ _ _ h => h) (Or.inl ⟨by rfl, fun w hw => by go_simp⟩) (by assumption) ?_
    try simp only [Act.put, List.setIfInBounds_toArray, List.set_cons_zero, List.set_cons_succ]
    refine wpAnyH_ready (rs := [12]) (by kernel_rfl) (by simp) ?_
    refine AllReadyH.cons rfl (fun K hK => ?_) AllReadyH.nil
    go_simp
    refine hK.out _ _ (HKD.out _ _ hgrow _) (fun hHeld => ?_)
    clear hK K
    refine wpAnyH_done (by kernel_rfl) ?_ _
    go_wp2
    go_ret
    obtain ⟨s1, s2⟩ := HD3.out.setWs hi (DK.put_len (by rw [HM.out]; exact hb)) (by rw [← HY.out]; exact hown) hgrow hat
    exact wr_yes hi (by rw [HM.out]; exact hb) HS.out s1 (wr_moved Q1.out HB2.out HC3.out s2 hat)
end Go.Proofs.YtckcbfnffmohgaaGreat
namespace Go.Proofs.YtckcbfnffmohgaaGreat
open Go Go.RowKit

end Go.Proofs.YtckcbfnffmohgaaGreat
namespace Go.Proofs.YtckcbfnffmohgaaGreat
open Go Go.RowKit

end Go.Proofs.YtckcbfnffmohgaaGreat
namespace Go.Proofs.YtckcbfnffmohgaaGreat
open Go Go.RowKit

theorem dwrite_any (w : World) (u : Dsk) (n : Nat) (d : DK.D) (h : DAt w u n d) (i : Int) (A : Option Addr) (m c : Nat) (b : List Int) (hm : b.length = m) (hws : d.ws.length ≤ 10000)
    (hA : BytesAt w A b) (hAb : b ≠ [] → ∀ x, A = some x → x.block ≠ u.g) :
    Calls Tryz.prog 68 #[.pointer (some ⟨u.g, 0, none⟩), .int .i64 i, .slice A m c] w (DWrite w u n d i b) := by
  by_cases hi : i < 0 ∨ (n : Int) ≤ i
  · exact dwrite_no w u n d h i hi A m c b
  by_cases h32 : 32 < m
  · exact dwrite_full w u n d h i hi A m c b hm h32
  by_cases hs : DK.stopped d = true
  · exact dwrite_down w u n d h i hi A m c b hm (by omega) hs
  · obtain ⟨k, rfl⟩ : ∃ k : Nat, i = (k : Int) := ⟨i.toNat, by omega⟩
    exact dwrite_yes w u n d h k (by omega) A m c b hm (by omega) (by simpa using hs) hws hA hAb
end Go.Proofs.YtckcbfnffmohgaaGreat
namespace Go.Proofs.YtckcbfnffmohgaaGreat
open Go Go.RowKit
set_option linter.unusedVariables false

set_option maxHeartbeats 400000 in
theorem dpages_any (w : World) (u : Dsk) (n : Nat) (d : DK.D) (h : DAt w u n d) :
    Calls Tryz.prog 66 #[.pointer (some ⟨u.g, 0, none⟩)] w fun e w' => e = .returned (.int .i64 n) ∧ w = w' := by
  have c1 : w.cell? ⟨u.g, 1, none⟩ = some (.slice (some ⟨u.gn, 0, none⟩) n u.cn) := h.blk.cell 1
  clear h
  go_enter Tryz.func66, Tryz.ntmps66
  go_wp2
  go_ret
  exact ⟨rfl, rfl⟩
end Go.Proofs.YtckcbfnffmohgaaGreat
