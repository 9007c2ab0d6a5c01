/-
  Rows of bools in memory; footbridgesame.Bools. Condition: the rows lie as 'BoolsAt' says.
-/
import Derived.Test.YthgniehfejklhaaGreatBs6
import Derived.Test.YthgniehfejklhaaGreatBs2
import Derived.Deep.QuietTactic
import Derived.BigQuiet
namespace Go.Proofs.YthgniehfejklhaaGreat
open Go Go.RowKit Go.ChangeShapes Go.WideShapes
set_option linter.unusedVariables false

def BoolsAt (w : World) (a : Option Addr) (xs : List Bool) : Prop := xs = [] ∨ ∃ b off, a = some ⟨b, off, none⟩ ∧ b < w.heap.size ∧ ∀ i v, xs[i]? = some v → w.cell? ⟨b, off + i, none⟩ = some (.bool v)
theorem BoolsAt.ext {w w' : World} {a : Option Addr} {xs : List Bool} (h : BoolsAt w a xs) (hb : Below w.heap.size w w') : BoolsAt w' a xs := by
  rcases h with h | ⟨b, off, rfl, hl, hc⟩
  · exact .inl h
  · exact .inr ⟨b, off, rfl, Nat.lt_of_lt_of_le hl hb.size, fun i v hv => (hb.cell (p := ⟨b, off + i, none⟩) hl).trans (hc i v hv)⟩
theorem BoolsAt.of_own {w : World} {base c n : Nat} {A : Option Addr} {e : TypeId} {xs : List Bool} (h : w.ownsRow base e 1 (.slice A n c) n (xs.map Value.bool)) : BoolsAt w A xs ∧ xs.length = n ∧ n ≤ c := by
  have hl : xs.length = n := by have := h.1; simpa using this
  rcases Nat.eq_zero_or_pos n with h0 | h0
  · exact ⟨.inl (List.eq_nil_of_length_eq_zero (by omega)), hl, by omega⟩
  obtain ⟨g, cap, hv, hc, _⟩ := own_form h h0
  simp only [Value.slice.injEq, true_and] at hv
  obtain ⟨rfl, rfl⟩ := hv
  refine ⟨.inr ⟨g, 0, rfl, own_lt h (by simp [Value.ownBlock]), fun i v hv => ?_⟩, hl, hc⟩
  have hi : i < n := by have := (List.getElem?_eq_some_iff.1 hv).1; omega
  rw [Nat.zero_add, World.ownsRow.cellAt h i (by omega), List.getElem?_map, hv]; rfl
theorem BoolsAt.take {w : World} {A : Option Addr} {l : List Bool} (h : BoolsAt w A l) (k : Nat) : BoolsAt w A (l.take k) := by
  rcases h with h | ⟨b, off, rfl, hl, he⟩
  · exact .inl (by rw [h]; simp)
  · refine .inr ⟨b, off, rfl, hl, fun i e hi => he i e ?_⟩
    rw [List.getElem?_take] at hi
    split at hi
    · exact hi
    · cases hi
theorem BoolsAt.drop {w : World} {A : Option Addr} {l : List Bool} (h : BoolsAt w A l) (k : Nat) : BoolsAt w (A.map (·.add k)) (l.drop k) := by
  rcases h with h | ⟨b, off, rfl, hl, he⟩
  · exact .inl (by rw [h]; simp)
  · refine .inr ⟨b, off + k, by simp [Addr.add_mid], hl, fun i e hi => ?_⟩
    rw [List.getElem?_drop] at hi
    have := he _ _ hi
    rwa [← Nat.add_assoc] at this
theorem drop_nil_of {w : World} {A : Option Addr} {l : List Bool} {k : Nat} (h : l.length ≤ k) : BoolsAt w A (l.drop k) := .inl (List.drop_eq_nil_of_le h)
def TruePost (w : World) (r : Bool) (e : Ending) (w' : World) : Prop := e = .returned (.bool r) ∧ Below w.heap.size w w'
def TrueQuiet (w : World) (r : Bool) (e : Ending) (w' : World) : Prop := e = .returned (.bool r) ∧ ∃ m, w' = w.drewN m
theorem BoolsAt.drewN {w : World} {A : Option Addr} {l : List Bool} (h : BoolsAt w A l) (n : Nat) : BoolsAt (w.drewN n) A l := h
set_option maxHeartbeats 1000000 in
theorem bools_quiet (w : World) (A B : Option Addr) (n m c d : Nat) (xs ys : List Bool) (hx : BoolsAt w A xs) (hy : BoolsAt w B ys) (hn : xs.length = n) (hm : ys.length = m) (hnb : n ≤ 9223372036854775807) (hmb : m ≤ 9223372036854775807) (r : Bool) (hr : decide (xs = ys) = r) :
    Calls Tryz.prog 24 #[.slice A n c, .slice B m d] w (TrueQuiet w r) := by
  have HX := Lib.hid hx
  have HY := Lib.hid hy
  have HN := Lib.hid hn
  have HM := Lib.hid hm
  have HR := Lib.hid hr
  clear hx hy hn hm hr
  by_cases hnm : n = m
  · subst hnm
    go_enter Tryz.func24, Tryz.ntmps24
    go_wp2
    go_loopw [5] (fun v wr => ∃ k : Nat, k ≤ n ∧ v = .int .i64 k ∧ xs.take k = ys.take k ∧ Hid (∃ m, wr = w.drewN m)) (fun v _ => n - (intOf v).toNat)
    case atStart => exact ⟨0, Nat.zero_le _, rfl, rfl, 0, rfl⟩
    case round =>
      obtain ⟨k, hk, rfl, ht, HE⟩ := hrel
      have hxw : BoolsAt wr A xs := by obtain ⟨m, h⟩ := HE.out; rw [h]; exact HX.out
      have hyw : BoolsAt wr B ys := by obtain ⟨m, h⟩ := HE.out; rw [h]; exact HY.out
      have HT := Lib.hid ht
      by_cases hlt : k < n
      · rcases hxw with h0 | ⟨b, off, rfl, _, hc⟩
        · have := HN.out; subst h0; simp at this; omega
        rcases hyw with h0 | ⟨b', off', rfl, _, hc'⟩
        · have := HM.out; subst h0; simp at this; omega
        have hkx : k < xs.length := by rw [HN.out]; exact hlt
        have hky : k < ys.length := by rw [HM.out]; exact hlt
        obtain ⟨x, hxx⟩ : ∃ x, xs[k]? = some x := ⟨_, List.getElem?_eq_getElem hkx⟩
        obtain ⟨y, hyy⟩ : ∃ y, ys[k]? = some y := ⟨_, List.getElem?_eq_getElem hky⟩
        have c1 := hc k x hxx
        have c2 := hc' k y hyy
        have HXX := Lib.hid hxx
        have HYY := Lib.hid hyy
        have z0 : (0 : Int) ≤ (k : Int) := by omega
        have z1 : (k : Int) < (n : Int) := by omega
        clear hc hc' hxx hyy ht hkx hky
        by_cases e : x = y
        · subst e
          cases x
          all_goals
            go_wp2
            go_quiet (fail)
            go_wp2
            go_roundw
            case rel => exact ⟨k + 1, by omega, by go_num, by rw [take_snoc' HXX.out, take_snoc' HYY.out, HT.out], by obtain ⟨m, h⟩ := HE.out; exact ⟨_, by rw [h, World.drewN_drewN]⟩⟩
            case measure => simp [intOf]; omega
        · have HEq := Lib.hid e
          clear e
          cases x <;> cases y
          all_goals first
            | exact absurd rfl HEq.out
            | (go_wp2
               go_quiet (fail)
               go_wp2
               go_ret
               refine ⟨ret_b' ?_, by obtain ⟨m, h⟩ := HE.out; exact ⟨_, by rw [h, World.drewN_drewN]⟩⟩
               rw [← HR.out]; symm; rw [decide_eq_false_iff_not]
               intro h
               have := HXX.out
               rw [h, HYY.out] at this
               cases this)
      · clear ht hxw hyw
        go_wp2
        go_ret
        refine ⟨ret_b' ?_, HE.out⟩
        rw [← HR.out]; symm; rw [decide_eq_true_eq]
        have := HT.out
        have h1 := HN.out
        have h2 := HM.out
        rwa [List.take_of_length_le (by omega), List.take_of_length_le (by omega)] at this
  · have e2 : ((n : Int) != (m : Int)) = true := by simp; omega
    have e3 : (n != m) = true := by simp; omega
    have HE : Hid (false = r) := by
      unfold Hid
      rw [← HR.out]; symm; rw [decide_eq_false_iff_not]
      intro h; have := congrArg List.length h; rw [HN.out, HM.out] at this; exact hnm this
    clear hnm
    go_enter Tryz.func24, Tryz.ntmps24
    go_wp2
    go_ret
    exact ⟨ret_b' HE.out, 0, rfl⟩
theorem bools_any (w : World) (A B : Option Addr) (n m c d : Nat) (xs ys : List Bool) (hx : BoolsAt w A xs) (hy : BoolsAt w B ys) (hn : xs.length = n) (hm : ys.length = m) (hnb : n ≤ 9223372036854775807) (hmb : m ≤ 9223372036854775807) (r : Bool) (hr : decide (xs = ys) = r) :
    Calls Tryz.prog 24 #[.slice A n c, .slice B m d] w (TruePost w r) :=
  (bools_quiet w A B n m c d xs ys hx hy hn hm hnb hmb r hr).mono fun e w' ⟨h, k, hk⟩ => ⟨h, by rw [hk]; exact below_drewN' (Below.refl _ _) k⟩
end Go.Proofs.YthgniehfejklhaaGreat
