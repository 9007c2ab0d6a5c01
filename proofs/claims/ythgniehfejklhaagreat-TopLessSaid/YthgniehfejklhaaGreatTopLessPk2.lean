/-
  A queue of integers: a window of a row that grows behind and is cut ahead; rows made new; rows beside. No conditions.
-/
import Derived.Test.YthgniehfejklhaaGreatBs7
import Derived.Laws.MakeOwn
namespace Go.Proofs.YthgniehfejklhaaGreat
open Go Go.RowKit
set_option linter.unusedVariables false

theorem run_append_off {P : Program} (w : World) (t ty e : TypeId) (i : TypeInfo) (ht : P.underlying t = some (.slice e)) (hi : P.info? e = some i) (hs : i.size = 1)
    (g off sLen sCap : Nat) (cur : Array Value) (hg : w.heap[g]? = some (.cells cur e (0, 0)))
    (B c : Nat) (u : Value) (hnews : w.cell? ⟨B, 0, none⟩ = some u) (h1 : u.oneCell' = true)
    (hroom : sLen + 1 ≤ sCap) (hfit : off + sLen + 1 ≤ cur.size) :
    (Builtin.append_ #[t, t] ty #[.slice (some ⟨g, off, none⟩) sLen sCap, .slice (some ⟨B, 0, none⟩) 1 c]).run P w =
      .ok (.slice (some ⟨g, off, none⟩) (sLen + 1) sCap) (w.setRow g (cur.toList.take (off + sLen) ++ [u] ++ cur.toList.drop (off + sLen + 1)).toArray) := by
  have hf := run_firstCells_some (P := P) w 1 1 ⟨B, 0, none⟩ 1 c [u] (by simp) (fun j x hj => by
    match j, hj with
    | 0, hj => simp at hj; subst hj; rw [Addr.add_mid]; exact hnews)
  have hst := run_storeCells_at P g (off + sLen) e [u] 0 cur w hg (by simpa using hfit) (by simpa using h1)
  simp only [Nat.add_zero] at hst
  simp [Builtin.append_, run_underlying ht, sizeOf, typeInfo, hi, hs, Builtin.lenOf, hroom, hf, Addr.add_lit, hst]
def natsV (q : List Nat) : List Value := q.map fun (x : Nat) => .int .i64 (x : Int)
/-- A queue as it lies. -/
def QwAt (w : World) (v : Value) (q : List Nat) : Prop := ∃ g off cap cur, v = .slice (some ⟨g, off, none⟩) q.length cap ∧ w.heap[g]? = some (.cells cur 3 (0, 0)) ∧ q.length ≤ cap ∧ cap ≤ maxLen ∧ off + cap ≤ cur.size ∧ ∀ (j x : Nat), q[j]? = some x → cur[off + j]? = some (.int .i64 (x : Int))
theorem QwAt.chg {S : Nat → Prop} {w w' : World} {v : Value} {q : List Nat} (h : QwAt w v q) (hc : Chg S w w') (hn : ∀ k, v.ownBlock = some k → ¬ S k) : QwAt w' v q := by
  obtain ⟨g, off, cap, cur, rfl, h1, h2⟩ := h
  exact ⟨g, off, cap, cur, rfl, (hc.block g (Array.getElem?_eq_some_iff.1 h1).1 (hn g rfl)).trans h1, h2⟩
theorem QwAt.lt {w : World} {v : Value} {q : List Nat} (h : QwAt w v q) {k : Nat} (hk : v.ownBlock = some k) : k < w.heap.size := by
  obtain ⟨g, off, cap, cur, rfl, h1, h2⟩ := h
  simp [Value.ownBlock] at hk; subst hk
  exact (Array.getElem?_eq_some_iff.1 h1).1
theorem QwAt.one (w : World) (x : Nat) : QwAt (w.alloc (.cells #[.int .i64 (x : Int)] 3)) (.slice (some ⟨w.heap.size, 0, none⟩) 1 1) [x] :=
  ⟨w.heap.size, 0, 1, _, rfl, heap_alloc_new w _, Nat.le_refl _, by unfold maxLen; omega, by simp, fun j y hj => by
    match j, hj with
    | 0, hj => simp at hj; subst hj; rfl⟩
/-- The queue's first, and the rest. -/
theorem QwAt.pop {w : World} {A : Option Addr} {m c : Nat} {x : Nat} {q : List Nat} (h : QwAt w (.slice A m c) (x :: q)) : ∃ g off, A = some ⟨g, off, none⟩ ∧ m = q.length + 1 ∧ m ≤ c ∧ c ≤ maxLen ∧ w.cell? ⟨g, off, none⟩ = some (.int .i64 (x : Int)) ∧ QwAt w (.slice (if c = 1 then some ⟨g, off, none⟩ else some ⟨g, off + 1, none⟩) (m - 1) (c - 1)) q := by
  obtain ⟨g, off, cap, cur, hv, h1, h2, h3, h4, h5⟩ := h
  simp only [Value.slice.injEq] at hv
  obtain ⟨rfl, rfl, rfl⟩ := hv
  refine ⟨g, off, rfl, rfl, h2, h3, ?_, ?_⟩
  · rw [cell_of_row w g off cur _ (0, 0) h1]; exact h5 0 x rfl
  · simp only [List.length_cons] at h2 ⊢
    by_cases hc : c = 1
    · rw [if_pos hc]
      have hq : q = [] := List.eq_nil_of_length_eq_zero (by omega)
      subst hq; subst hc
      exact ⟨g, off, 0, cur, by simp, h1, by simp, by omega, by omega, fun j y hj => by simp at hj⟩
    · rw [if_neg hc]
      exact ⟨g, off + 1, c - 1, cur, by simp, h1, by omega, by omega, by omega, fun j y hj => by rw [show off + 1 + j = off + (j + 1) by omega]; exact h5 (j + 1) y hj⟩
theorem QwAt.form {w : World} {v : Value} {q : List Nat} (h : QwAt w v q) : ∃ A c, v = .slice A q.length c ∧ q.length ≤ c ∧ c ≤ maxLen := by
  obtain ⟨g, off, cap, cur, rfl, h1, h2, h3, _⟩ := h
  exact ⟨_, cap, rfl, h2, h3⟩
theorem run_qpush (w : World) (ty : TypeId) {v : Value} {q : List Nat} (h : QwAt w v q) (hq : q.length ≤ 100000) (B x : Nat) (hB : w.cell? ⟨B, 0, none⟩ = some (.int .i64 (x : Int))) :
    ∃ v' w', (Builtin.append_ #[23, 23] ty #[v, .slice (some ⟨B, 0, none⟩) 1 1]).run Tryz.prog w = .ok v' w' ∧ QwAt w' v' (q ++ [x]) ∧ Chg (fun k => v.ownBlock = some k) w w' ∧ (v'.ownBlock = v.ownBlock ∨ v'.ownBlock = some w.heap.size) := by
  obtain ⟨i, hi, hz0, hz1, hz2⟩ := info_parts infoI
  obtain ⟨g, off, cap, cur, rfl, h1, h2, h3, h4, h5⟩ := h
  by_cases hroom : q.length + 1 ≤ cap
  · refine ⟨_, _, run_append_off w 23 ty 3 i Tryz.underlying23 hi hz1 g off q.length cap cur h1 B 1 _ hB rfl hroom (by omega), ⟨g, off, cap, _, by simp, setRow_heap w g cur _ _ _ h1, by simpa using hroom, h3, ?_, ?_⟩, ?_, .inl rfl⟩
    · simp; omega
    · intro j y hj
      rw [List.getElem?_toArray]
      have hlt : off + q.length + 1 ≤ cur.toList.length := by simp; omega
      by_cases hjq : j < q.length
      · rw [List.getElem?_append_left hjq] at hj
        rw [List.append_assoc, List.getElem?_append_left (by simp; omega), List.getElem?_take, if_pos (by omega), Array.getElem?_toList]
        exact h5 j y hj
      · have hj2 : j = q.length := by
          have := (List.getElem?_eq_some_iff.1 hj).1
          simp at this; omega
        subst hj2
        rw [List.getElem?_append_right (Nat.le_refl _)] at hj
        simp at hj; subst hj
        rw [List.append_assoc, List.getElem?_append_right (by simp; omega)]
        simp only [List.length_take, Array.length_toList]
        rw [show off + q.length - min (off + q.length) cur.size = 0 by simp at hlt; omega]; rfl
    · exact ⟨rfl, rfl, rfl, by simp, fun k _ hk => setRow_other w g k _ (fun e => hk (by simp [Value.ownBlock, e]))⟩
  · have hnl : (natsV q).length = q.length * i.size := by simp [natsV, hz1]
    have holds : ∀ j u, (natsV q)[j]? = some u → w.cell? ((⟨g, off, none⟩ : Addr).add j) = some u := fun j u hj => by
      simp only [natsV, List.getElem?_map, Option.map_eq_some_iff] at hj
      obtain ⟨y, hy, rfl⟩ := hj
      rw [Addr.add_mid, cell_of_row w g (off + j) cur _ (0, 0) h1]; exact h5 j y hy
    have hb : (q.length + 1) * i.bytes ≤ 140737488355328 := by rw [hz2]; omega
    have hr := run_append_grow (P := Tryz.prog) w 23 ty 3 i (.int .i64 0) Tryz.underlying23 hi hz0 ⟨g, off, none⟩ q.length cap (natsV q) hnl holds ⟨B, 0, none⟩ 1 1 [.int .i64 (x : Int)] (by simp [hz1]) (fun j u hj => by
      match j, hj with
      | 0, hj => simp at hj; subst hj; rw [Addr.add_mid]; exact hB) (by omega) (by omega) (growslice_fits (by omega) hb)
    have hge := grownCap_ge w (q.length + 1) cap 3
    refine ⟨_, _, hr, ⟨w.heap.size, 0, grownCap w (q.length + 1) cap 3, _, by simp, heap_alloc_new w.drew _, by simpa using hge, grownCap_le_maxLen w (q.length + 1) cap _ (by unfold maxLen; omega), ?_, ?_⟩, ?_, .inr rfl⟩
    · simp [natsV, size_zeroCells, Value.cells]; omega
    · intro j y hj
      have hjl := (List.getElem?_eq_some_iff.1 hj).1
      simp at hjl
      have e : (natsV q).toArray ++ #[Value.int .i64 (x : Int)] = (natsV (q ++ [x])).toArray := by simp [natsV]
      rw [show ([Value.int .i64 (x : Int)] : List Value).toArray = #[Value.int .i64 (x : Int)] from rfl, e, Nat.zero_add, Array.getElem?_append_left (by simp [natsV]; omega), List.getElem?_toArray]
      simp only [natsV, List.getElem?_map, hj]; rfl
    · exact (((Chg.refl _ w).drew).alloc _)
theorem wpList_qpush (w : World) {ops : Array Oper} {rest : List Oper} {o : Oper} {a : Act} {Q : Exit → Act → World → Prop} (hgd : o.guard = none) (s x : Operand)
    (ho : o.op = .call { callee := .builtin .append, args := #[s, x], argTypes := #[23, 23] })
    (v : Value) (q : List Nat) (hs : a.eval s = v) (h : QwAt w v q) (hq : q.length ≤ 100000) (B y : Nat) (hx : a.eval x = .slice (some ⟨B, 0, none⟩) 1 1) (hB : w.cell? ⟨B, 0, none⟩ = some (.int .i64 (y : Int)))
    (hk : ∀ v' w', QwAt w' v' (q ++ [y]) → Chg (fun k => v.ownBlock = some k) w w' → (v'.ownBlock = v.ownBlock ∨ v'.ownBlock = some w.heap.size) → wpList Tryz.prog ops Q rest (a.put o.dst v') w') : wpList Tryz.prog ops Q (o :: rest) a w := by
  refine wpList_plain hgd fun K hK => ?_
  obtain ⟨v', w', hr, h2, h3, h4⟩ := run_qpush w o.type h hq B y hB
  unfold Oper.wp execOp
  simp only [ho, resolve, invoke, builtin, Sem.run_bind, Sem.run_pure, Result.andThen_ok, List.map_toArray, List.map_cons, List.map_nil, hs, hx, hr]
  exact hK _ _ (hk v' w' h2 h3 h4)
theorem run_ints (n : Nat) (h : n ≤ 1000) : ∃ cs : Array Value, cs.toList = List.replicate n (Value.int .i64 0) ∧ ∀ w : World,
    (Instr.makeSlice 23 (.int .i64 (n : Int)) (.int .i64 (n : Int))).run Tryz.prog w = .ok (.slice (some ⟨w.heap.size, 0, none⟩) n n) (w.alloc (.cells cs 3)) := by
  obtain ⟨i, hi, hz0, hz1, hz2⟩ := info_parts infoI
  refine ⟨madeCells (Value.int .i64 0).cells (n * i.size), ?_, fun w => ?_⟩
  · rw [hz1]; show (madeCells #[Value.int .i64 0] (n * 1)).toList = _; rw [toList_madeCells_one]; simp
  · have := run_make w 23 3 i _ Tryz.underlying23 hi hz0 .i64 .i64 (n : Int) (n : Int) (by omega) (Int.le_refl _) (by rw [hz2]; omega) (by omega)
    simpa using this
/-- Rows of nodes beside nodes, as they are read. -/
structure BesAt (w : World) (G n : Nat) (N : Nat → List Nat) : Prop where
  lt : G < w.heap.size
  row : ∀ v, v < n → ∃ A c, w.cell? ⟨G, v, none⟩ = some (.slice A (N v).length c) ∧ IntsAt w A ((N v).map fun (x : Nat) => (x : Int)) ∧ (N v).length ≤ 400
theorem BesAt.ext {w w' : World} {G n : Nat} {N : Nat → List Nat} (h : BesAt w G n N) (hx : Ext w w') : BesAt w' G n N :=
  ⟨Nat.lt_of_lt_of_le h.lt hx.size, fun v hv => by
    obtain ⟨A, c, h1, h2, h3⟩ := h.row v hv
    exact ⟨A, c, (hx.cell (p := ⟨G, v, none⟩) h.lt).trans h1, h2.ext hx, h3⟩⟩
end Go.Proofs.YthgniehfejklhaaGreat
