/-
  Rows of pairs of numbers: how they lie; footbridgesame.Twos. Condition: the rows lie as 'TwosAt' says.
-/
import Derived.Test.YtenjblonepegfaaDoorRf1
import Derived.Laws.StructEq
namespace Go.Proofs.YtenjblonepegfaaDoor
open Go Go.RowKit
set_option linter.unusedVariables false

def twC (p : Nat × Nat) : List Value := [.int .i64 (p.1 : Nat), .int .i64 (p.2 : Nat)]
theorem twC_len (p : Nat × Nat) : (twC p).length = 2 := rfl
theorem infoTwo : (Tryd.prog.info? 143).map (fun i => (i.zero, i.size, i.bytes)) = some (some (.agg #[.int .i64 0, .int .i64 0]), 2, 16) := by kernel_rfl
def TwosAt (w : World) (A : Option Addr) (L : List (Nat × Nat)) : Prop := L = [] ∨ ∃ b off, A = some ⟨b, off, none⟩ ∧ b < w.heap.size ∧ ∀ (i : Nat) (p : Nat × Nat), L[i]? = some p → w.cell? ⟨b, off + i * 2, none⟩ = some (.int .i64 (p.1 : Nat)) ∧ w.cell? ⟨b, off + i * 2 + 1, none⟩ = some (.int .i64 (p.2 : Nat))
theorem TwosAt.ext {w w' : World} {A : Option Addr} {L : List (Nat × Nat)} (h : TwosAt w A L) (hb : Below w.heap.size w w') : TwosAt w' A L := by
  rcases h with h | ⟨b, off, rfl, hl, he⟩
  · exact .inl h
  · exact .inr ⟨b, off, rfl, Nat.lt_of_lt_of_le hl hb.size, fun i p hp => ⟨(hb.cell (p := ⟨b, _, none⟩) hl).trans (he i p hp).1, (hb.cell (p := ⟨b, _, none⟩) hl).trans (he i p hp).2⟩⟩
theorem TwosAt.of_own {w : World} {A : Option Addr} {n c : Nat} {L : List (Nat × Nat)} (h : w.ownsRow 0 143 2 (.slice A n c) n (rowsOf twC L)) (hn : L.length = n) : TwosAt w A L ∧ n ≤ c := by
  rcases Nat.eq_zero_or_pos n with h0 | h0
  · exact ⟨.inl (List.eq_nil_of_length_eq_zero (by omega)), by omega⟩
  obtain ⟨g, cap, hv, hc, _⟩ := own_form h h0
  simp only [Value.slice.injEq, true_and] at hv
  obtain ⟨rfl, rfl⟩ := hv
  refine ⟨.inr ⟨g, 0, rfl, own_lt h (by simp [Value.ownBlock]), fun i x hx => ?_⟩, hc⟩
  have hi : i < n := by have := (List.getElem?_eq_some_iff.1 hx).1; omega
  have key : ∀ j v, (twC x)[j]? = some v → w.cell? ⟨g, i * 2 + j, none⟩ = some v := fun j v hv => by
    have hj : j < 2 := (List.getElem?_eq_some_iff.1 hv).1
    rw [World.ownsRow.cellAt h (i * 2 + j) (by omega)]
    exact rowsOf_get (f := twC) (S := 2) (fun a _ => twC_len a) hx hv
  refine ⟨?_, ?_⟩
  · have := key 0 _ rfl; simpa using this
  · have := key 1 _ rfl; simpa [Nat.add_assoc] using this
theorem cellsTwo : Tryd.prog.cellsOf 143 = 2 := by kernel_rfl
theorem keyTwo : Tryd.prog.keyTypeAt 2 143 = true := by kernel_rfl
theorem litsTwo (a b : Int) (ha : (Lit.int .i64 a).wf = true) (hb : (Lit.int .i64 b).wf = true) : Tryd.prog.keyLits 2 143 [.int .i64 a, .int .i64 b] = some [.int .i64 a, .int .i64 b] := by
  simp [Program.keyLits, Tryd.underlying143, Tryd.underlying3, cellsTwo, cellsI, ha, hb, List.range_succ]
theorem formedTwo {a b : Value} : (Value.agg #[a, b]).formed Tryd.prog 143 = true := by simp [Value.formed, Tryd.underlying143, cellsTwo]
theorem guardTwo (x y : Operand) (xs ys : Array Value) (w : World) : (eqGuard .neq 143 x y (.agg xs) (.agg ys)).run Tryd.prog w = .ok () w := run_eqGuard_agg w .neq 143 x y xs ys (by kernel_rfl)
theorem neqTwo (a b : Int) (ha : (Lit.int .i64 a).wf = true) (hb : (Lit.int .i64 b).wf = true) (w : World) : (binOp .neq 143 (.agg #[.int .i64 a, .int .i64 b]) (.agg #[.int .i64 a, .int .i64 b])).run Tryd.prog w = .ok (.bool false) w := by
  obtain ⟨r, hr, hiff⟩ := run_equalIn_deep (P := Tryd.prog) 9998 2 143 keyTwo w 2 2 (.agg #[.int .i64 a, .int .i64 b]) (.agg #[.int .i64 a, .int .i64 b]) _ _ formedTwo formedTwo (litsTwo a b ha hb) (litsTwo a b ha hb)
  have : r = true := hiff.2 rfl
  subst this
  rw [run_neq_struct, show (10000 : Nat) = 9998 + 2 from rfl, hr]; rfl
set_option maxHeartbeats 2000000 in
theorem twos_any (w : World) (A B : Option Addr) (n c d : Nat) (L : List (Nat × Nat)) (hx : TwosAt w A L) (hy : TwosAt w B L) (hn : L.length = n) (hnb : n ≤ 1000000) (hpb : ∀ p ∈ L, p.1 ≤ 1000000 ∧ p.2 ≤ 1000000) :
    Calls Tryd.prog 39 #[.slice A n c, .slice B n d] w fun e w' => e = .returned (.bool true) ∧ Below w.heap.size w w' := by
  have HX := Lib.hid hx
  have HY := Lib.hid hy
  have HN := Lib.hid hn
  have HPB := Lib.hid hpb
  have hgd := guardTwo
  clear hx hy hn hpb
  go_enter Tryd.func39, Tryd.ntmps39
  go_wp2
  go_loopw [5] (fun v wr => ∃ k : Nat, k ≤ n ∧ v = .int .i64 k ∧ Below w.heap.size w wr) (fun v _ => n - (intOf v).toNat)
  case atStart => exact ⟨0, by omega, rfl, Below.refl _ _⟩
  case round =>
    obtain ⟨k, hk, rfl, hb⟩ := hrel
    have HB := Lib.hid hb
    clear hb
    by_cases hlt : k < n
    · obtain ⟨p, hp⟩ : ∃ p, L[k]? = some p := ⟨_, List.getElem?_eq_getElem (by have := HN.out; omega)⟩
      rcases HX.out.ext HB.out with h0 | ⟨b1, o1, rfl, _, h1⟩
      · rw [h0] at hp; simp at hp
      rcases HY.out.ext HB.out with h0 | ⟨b2, o2, rfl, _, h2⟩
      · rw [h0] at hp; simp at hp
      obtain ⟨x1, x2⟩ := h1 k p hp
      obtain ⟨y1, y2⟩ := h2 k p hp
      obtain ⟨b1', b2'⟩ := HPB.out p (List.mem_of_getElem? hp)
      obtain ⟨p1, p2⟩ := p
      simp only at x1 x2 y1 y2 b1' b2'
      have hne := neqTwo (p1 : Nat) (p2 : Nat) (WalkArith.wf_i64 (by omega)) (WalkArith.wf_i64 (by omega))
      have z0 : (0 : Int) ≤ (k : Int) := by omega
      have z1 : (k : Int) < (n : Int) := by omega
      clear h1 h2 hp
      go_wp2
      go_quiet (fail)
      have HB2 := Lib.hid (below_drewN' HB.out nq)
      go_wp2
      go_roundw
      case rel => exact ⟨k + 1, by omega, by go_num, HB2.out⟩
      case measure => simp [intOf]; omega
    · go_wp2
      go_ret
      exact ⟨rfl, HB.out⟩
end Go.Proofs.YtenjblonepegfaaDoor
