/-
  Walk of (*Disk).Write. Condition: the disk lies in memory as 'DAt' says, the bytes as 'BytesAt'.
-/
import Derived.Test.YtenjblonepegfaaDoorDk3
namespace Go.Proofs.YtenjblonepegfaaDoor
open Go Go.RowKit

/-- A row of bytes is read at an address. -/
def BytesAt (w : World) (a : Option Addr) (xs : List Int) : Prop := xs = [] ∨ ∃ b off, a = some ⟨b, off, none⟩ ∧ b < w.heap.size ∧ ∀ i v, xs[i]? = some v → w.cell? ⟨b, off + i, none⟩ = some (.int .u8 v)
theorem BytesAt.chg {S : Nat → Prop} {w w' : World} {a : Option Addr} {xs : List Int} (h : BytesAt w a xs) (hc : Chg S w w') (hn : xs ≠ [] → ∀ x, a = some x → ¬ S x.block) : BytesAt w' a xs := by
  by_cases h0 : xs = []
  · exact .inl h0
  rcases h with h | ⟨b, off, rfl, hb, hx⟩
  · exact .inl h
  · exact .inr ⟨b, off, rfl, Nat.lt_of_lt_of_le hb hc.size, fun i v hv => (hc.cell (p := ⟨b, off + i, none⟩) hb (hn h0 ⟨b, off, none⟩ rfl)).trans (hx i v hv)⟩
theorem BytesAt.ext {w w' : World} {a : Option Addr} {xs : List Int} (h : BytesAt w a xs) (hb : Below w.heap.size w w') : BytesAt w' a xs := by
  rcases h with h | ⟨b, off, rfl, hlt, hx⟩
  · exact .inl h
  · exact .inr ⟨b, off, rfl, Nat.lt_of_lt_of_le hlt hb.size, fun i v hv => (hb.cell (p := ⟨b, _, none⟩) hlt).trans (hx i v hv)⟩

/-- What Write answers. -/
def wrErr (n : Nat) (d : DK.D) (i : Int) (b : List Int) : Option Int :=
  if i < 0 ∨ (n : Int) ≤ i then some 1 else if 32 < b.length then some 3 else if DK.stopped d then some 8 else none
def wrTo (n : Nat) (d : DK.D) (i : Int) (b : List Int) : DK.D :=
  if i < 0 ∨ (n : Int) ≤ i then d else if 32 < b.length then d else if DK.stopped d then DK.step d else DK.write (DK.step d) i.toNat b
def optErr : Option Int → Value
  | none => .nilIface
  | some k => derrV k
/-- What Write leaves. -/
def DWrite (w : World) (u : Dsk) (n : Nat) (d : DK.D) (i : Int) (b : List Int) (e : Ending) (w' : World) : Prop :=
  ∃ u' : Dsk, e = .returned (optErr (wrErr n d i b)) ∧ DAt w' u' n (wrTo n d i b) ∧ DMoved w u u' w'
theorem DMoved.refl (w : World) (u : Dsk) : DMoved w u u w := ⟨rfl, Chg.refl _ _, fun _ h => .inl h⟩
theorem wr_range {w : World} {u : Dsk} {n : Nat} {d : DK.D} {i : Int} {b : List Int} (h : DAt w u n d) (hi : i < 0 ∨ (n : Int) ≤ i) : DWrite w u n d i b (.returned (derrV 1)) w :=
  ⟨u, by simp [wrErr, hi, optErr], by simp [wrTo, hi]; exact h, DMoved.refl w u⟩
theorem wr_full {w : World} {u : Dsk} {n : Nat} {d : DK.D} {i : Int} {b : List Int} (h : DAt w u n d) (hi : ¬ (i < 0 ∨ (n : Int) ≤ i)) (hb : 32 < b.length) : DWrite w u n d i b (.returned (derrV 3)) w :=
  ⟨u, by simp [wrErr, hi, hb, optErr], by simp [wrTo, hi, hb]; exact h, DMoved.refl w u⟩
theorem wr_down {w w1 : World} {u : Dsk} {n : Nat} {d : DK.D} {i : Int} {b : List Int} (hi : ¬ (i < 0 ∨ (n : Int) ≤ i)) (hb : ¬ 32 < b.length) (hs : DK.stopped d = true) (h1 : DAt w1 u n (DK.step d)) (c1 : Chg (fun k => k = u.g) w w1) : DWrite w u n d i b (.returned (derrV 8)) w1 :=
  ⟨u, by simp [wrErr, hi, hb, hs, optErr], by simp [wrTo, hi, hb, hs]; exact h1, rfl, c1.mono (fun k _ hk => .inl hk), fun k hk => .inl hk⟩

theorem put_cells (b : List Int) : splice (DK.pgv DK.zero) 0 (DK.pgv b) = DK.pgv (DK.put b) := by
  simp [splice, DK.pgv, DK.put]

set_option maxHeartbeats 400000 in
theorem dwrite_no (w : World) (u : Dsk) (n : Nat) (d : DK.D) (h : DAt w u n d) (i : Int) (hi : i < 0 ∨ (n : Int) ≤ i) (A : Option Addr) (m c : Nat) (b : List Int) :
    Calls Tryd.prog 15 #[.pointer (some ⟨u.g, 0, none⟩), .int .i64 i, .slice A m c] w (DWrite w u n d i b) := by
  have c1 : w.cell? ⟨u.g, 1, none⟩ = some (.slice (some ⟨u.gn, 0, none⟩) n u.cn) := h.blk.cell 1
  have HE : Hid (DWrite w u n d i b (.returned (derrV 1)) w) := wr_range h hi
  have hle := h.le
  clear h
  by_cases h1 : i < 0
  · clear hi
    go_enter Tryd.func15, Tryd.ntmps15
    go_wp2
    go_ret
    exact HE.out
  · have h2 : (n : Int) ≤ i := by omega
    clear hi
    go_enter Tryd.func15, Tryd.ntmps15
    go_wp2
    go_ret
    exact HE.out
set_option maxHeartbeats 400000 in
theorem dwrite_full (w : World) (u : Dsk) (n : Nat) (d : DK.D) (h : DAt w u n d) (i : Int) (hi : ¬ (i < 0 ∨ (n : Int) ≤ i)) (A : Option Addr) (m c : Nat) (b : List Int) (hm : b.length = m) (hb : 32 < m) :
    Calls Tryd.prog 15 #[.pointer (some ⟨u.g, 0, none⟩), .int .i64 i, .slice A m c] w (DWrite w u n d i b) := by
  have c1 : w.cell? ⟨u.g, 1, none⟩ = some (.slice (some ⟨u.gn, 0, none⟩) n u.cn) := h.blk.cell 1
  have HE : Hid (DWrite w u n d i b (.returned (derrV 3)) w) := wr_full h hi (by omega)
  have hle := h.le
  clear h
  have h1 : ¬ (i < 0) := by omega
  have h2 : decide ((n : Int) ≤ i) = false := by simp only [decide_eq_false_iff_not]; omega
  have h3 : (32 : Int) < (m : Int) := by omega
  clear hi hm
  go_enter Tryd.func15, Tryd.ntmps15
  go_wp2
  go_ret
  exact HE.out
set_option maxHeartbeats 400000 in
theorem dwrite_down (w : World) (u : Dsk) (n : Nat) (d : DK.D) (h : DAt w u n d) (i : Int) (hi : ¬ (i < 0 ∨ (n : Int) ≤ i)) (A : Option Addr) (m c : Nat) (b : List Int) (hm : b.length = m) (hb : m ≤ 32) (hs : DK.stopped d = true) :
    Calls Tryd.prog 15 #[.pointer (some ⟨u.g, 0, none⟩), .int .i64 i, .slice A m c] w (DWrite w u n d i b) := by
  have c1 : w.cell? ⟨u.g, 1, none⟩ = some (.slice (some ⟨u.gn, 0, none⟩) n u.cn) := h.blk.cell 1
  have hle := h.le
  have HH := Lib.hid h
  have HS := Lib.hid hs
  have HI := Lib.hid hi
  have HM := Lib.hid hm
  clear h hs
  have h1 : ¬ (i < 0) := by omega
  have h2 : decide ((n : Int) ≤ i) = false := by simp only [decide_eq_false_iff_not]; omega
  have h3 : decide ((32 : Int) < (m : Int)) = false := by simp only [decide_eq_false_iff_not]; omega
  clear hi hm
  go_enter Tryd.func15, Tryd.ntmps15
  go_wp2_with fail
  refine (dstep_any w u n d HH.out).mono ?_
  rintro e w1 ⟨rfl, k1, q1⟩
  have K1 := Lib.hid k1
  have Q1 := Lib.hid q1
  clear k1 q1
  rw [HS.out]
  go_wp2
  go_ret
  exact wr_down HI.out (by have := HM.out; omega) HS.out K1.out Q1.out

/-- A write's cells built of its place and its page. -/
theorem run_write_built (X : List Value) (hX : X.length = 32) (i : Nat) (w : World) : (Instr.build 126 #[(0, .int .i64 (i : Int)), (1, .agg X.toArray)]).run Tryd.prog w = .ok (.agg (Value.int .i64 (i : Int) :: X).toArray) w := by
  refine run_build w _ _ _ ?_
  match X, hX with
  | [a0, a1, a2, a3, a4, a5, a6, a7, a8, a9, b0, b1, b2, b3, b4, b5, b6, b7, b8, b9, c0, c1, c2, c3, c4, c5, c6, c7, c8, c9, d0, d1], _ => exact (by show Tryd.prog.built _ _ = some _; kernel_rfl)

theorem run_bslice1 {P : Program} (w : World) (t e : TypeId) (i : TypeInfo) (z v : Value) (S : Nat) (Y : Array Value) (ht : P.underlying t = some (.slice e)) (hi : P.info? e = some i) (hz : i.zero = some z) (hs : i.size = S) (h0 : 0 < S) (hS : S ≤ 2 ^ 24)
    (hf : Instr.fill (fun i => some (i * S, S)) ((Array.range (1 * S)).map (z.cells[· % z.cells.size]!)) [(0, v)] = some Y) :
    (Instr.buildSlice t 1 #[(0, v)]).run P w = .ok (.slice (some ⟨w.heap.size, 0, none⟩) 1 1) (w.alloc (.cells Y e)) := by
  subst hs
  have h1 : ¬ (16777216 < i.size) := by omega
  have h2 : ¬ (i.size = 0) := by omega
  rw [Nat.one_mul] at hf
  have hsz : (sizeOf e).run P w = .ok i.size w := by simp [sizeOf, typeInfo, hi]
  have hzv : (zeroValue e).run P w = .ok z w := by simp [zeroValue, typeInfo, hi, hz]
  have hnr : (newRow e Y).run P w = .ok ⟨w.heap.size, 0, none⟩ (w.alloc (.cells Y e)) := by simp [newRow]
  unfold Instr.buildSlice
  simp [Sem.run_bind, run_underlying ht, hsz, hzv, h1, h2, hf, hnr]
theorem infoWrite : (Tryd.prog.info? 126).map (fun i => (i.zero, i.size, i.bytes)) = some (some (.agg (Value.int .i64 0 :: List.replicate 32 (Value.int .u8 0)).toArray), 33, 40) := by kernel_rfl
theorem run_write_slice (X : List Value) (hX : X.length = 32) (i : Nat) (w : World) : (Instr.buildSlice 116 1 #[(0, .agg (Value.int .i64 (i : Int) :: X).toArray)]).run Tryd.prog w = .ok (.slice (some ⟨w.heap.size, 0, none⟩) 1 1) (w.alloc (.cells (Value.int .i64 (i : Int) :: X).toArray 126)) := by
  obtain ⟨ti, hi, hz0, hz1, _⟩ := info_parts infoWrite
  refine run_bslice1 w _ _ ti _ _ 33 _ Tryd.underlying116 hi hz0 hz1 (by decide) (by decide) ?_
  match X, hX with
  | [a0, a1, a2, a3, a4, a5, a6, a7, a8, a9, b0, b1, b2, b3, b4, b5, b6, b7, b8, b9, c0, c1, c2, c3, c4, c5, c6, c7, c8, c9, d0, d1], _ => exact (by show Instr.fill _ _ _ = some _; kernel_rfl)

theorem fold_write (i : Nat) (X : List Value) (hX : X.length = 32) : List.foldl (fun (cs : Array Value) (x : Value × Nat) => cs.setIfInBounds (1 + x.snd) x.fst) #[Value.int .i64 (i : Int), Value.int .u8 0, Value.int .u8 0, Value.int .u8 0, Value.int .u8 0, Value.int .u8 0, Value.int .u8 0, Value.int .u8 0, Value.int .u8 0, Value.int .u8 0, Value.int .u8 0, Value.int .u8 0, Value.int .u8 0, Value.int .u8 0, Value.int .u8 0, Value.int .u8 0, Value.int .u8 0, Value.int .u8 0, Value.int .u8 0, Value.int .u8 0, Value.int .u8 0, Value.int .u8 0, Value.int .u8 0, Value.int .u8 0, Value.int .u8 0, Value.int .u8 0, Value.int .u8 0, Value.int .u8 0, Value.int .u8 0, Value.int .u8 0, Value.int .u8 0, Value.int .u8 0, Value.int .u8 0] X.zipIdx = (Value.int .i64 (i : Int) :: X).toArray := by
  match X, hX with
  | [a0, a1, a2, a3, a4, a5, a6, a7, a8, a9, b0, b1, b2, b3, b4, b5, b6, b7, b8, b9, c0, c1, c2, c3, c4, c5, c6, c7, c8, c9, d0, d1], _ => exact (by show List.foldl _ _ _ = List.toArray _; kernel_rfl)
theorem fold_slice (Y : List Value) (hY : Y.length = 33) : List.foldl (fun (cs : Array Value) (x : Value × Nat) => cs.setIfInBounds x.snd x.fst) #[Value.int .i64 0, Value.int .u8 0, Value.int .u8 0, Value.int .u8 0, Value.int .u8 0, Value.int .u8 0, Value.int .u8 0, Value.int .u8 0, Value.int .u8 0, Value.int .u8 0, Value.int .u8 0, Value.int .u8 0, Value.int .u8 0, Value.int .u8 0, Value.int .u8 0, Value.int .u8 0, Value.int .u8 0, Value.int .u8 0, Value.int .u8 0, Value.int .u8 0, Value.int .u8 0, Value.int .u8 0, Value.int .u8 0, Value.int .u8 0, Value.int .u8 0, Value.int .u8 0, Value.int .u8 0, Value.int .u8 0, Value.int .u8 0, Value.int .u8 0, Value.int .u8 0, Value.int .u8 0, Value.int .u8 0] Y.zipIdx = Y.toArray := by
  match Y, hY with
  | y :: X, h =>
    match X, (show X.length = 32 by simpa using h) with
    | [a0, a1, a2, a3, a4, a5, a6, a7, a8, a9, b0, b1, b2, b3, b4, b5, b6, b7, b8, b9, c0, c1, c2, c3, c4, c5, c6, c7, c8, c9, d0, d1], _ => exact (by show List.foldl _ _ _ = List.toArray _; kernel_rfl)
end Go.Proofs.YtenjblonepegfaaDoor
