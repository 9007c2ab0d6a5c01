/-
  Rows of integers that are read: how they lie in memory, how an argument of them is opened; the walk of footbridgesame.Ints. No conditions.
-/
import Derived.Test.YtckcbfnffmohgaaDoorRows
import Derived.Test.YtckcbfnffmohgaaDoorMem
import Derived.ProofKit
import Derived.WalkKit
import Derived.WalkSpells
import Derived.Lib.Hide
import Derived.Outline
import Derived.Deep.QuietTactic
import Derived.BigQuiet
import Derived.Deep.Slices
namespace Go.Proofs.YtckcbfnffmohgaaDoor
open Go Go.RowKit Go.ChangeShapes Go.WideShapes

/-- Only new blocks. -/
def Ext (w w' : World) : Prop := Below w.heap.size w w'
theorem Ext.refl (w : World) : Ext w w := Below.refl _ _
theorem Ext.trans {a b c : World} (h : Ext a b) (k : Ext b c) : Ext a c := Below.trans h (Below.mono k h.size)
theorem Ext.drew (w : World) : Ext w w.drew := (Below.refl _ _).drew
theorem Ext.drewN (w : World) (n : Nat) : Ext w (w.drewN n) := below_drewN' (Below.refl _ _) n
theorem Ext.alloc (w : World) (o : Obj) : Ext w (w.alloc o) := (Below.refl _ _).alloc (Nat.le_refl _) o

/-- A row of integers is read at an address. -/
def IntsAt (w : World) (a : Option Addr) (xs : List Int) : Prop := xs = [] ∨ ∃ b off, a = some ⟨b, off, none⟩ ∧ b < w.heap.size ∧ ∀ i v, xs[i]? = some v → w.cell? ⟨b, off + i, none⟩ = some (.int .i64 v)
theorem IntsAt.ext {w w' : World} {a : Option Addr} {xs : List Int} (h : IntsAt w a xs) (he : Ext w w') : IntsAt w' a xs := by
  rcases h with h | ⟨b, off, rfl, hb, hc⟩
  · exact .inl h
  · exact .inr ⟨b, off, rfl, Nat.lt_of_lt_of_le hb he.size, fun i v hv => (he.cell (p := ⟨b, _, none⟩) hb).trans (hc i v hv)⟩
theorem IntsAt.of_own {w : World} {base c n : Nat} {A : Option Addr} {e : TypeId} {xs : List Int} (h : w.ownsRow base e 1 (.slice A n c) n (xs.map (Value.int .i64))) : IntsAt w A xs ∧ xs.length = n := by
  have hl : xs.length = n := by have := h.1; simpa using this
  rcases h.2 with ⟨_, h0⟩ | ⟨g, cap, cur, hv, _, hg, _⟩
  · exact ⟨.inl (List.eq_nil_of_length_eq_zero (by omega)), hl⟩
  · simp only [Value.slice.injEq] at hv
    obtain ⟨rfl, _, rfl⟩ := hv
    refine ⟨.inr ⟨g, 0, rfl, (Array.getElem?_eq_some_iff.1 hg).1, fun i v hv => ?_⟩, hl⟩
    have hi : i < xs.length := (List.getElem?_eq_some_iff.1 hv).1
    rw [Nat.zero_add, h.cellAt i (by omega), List.getElem?_map, hv]; rfl
theorem open_introw {H : Type} {enc : TypeId × Value → H} {w : World} {spare : Nat → Bool} {held : Bool} {a : Option Addr} {len cap : Nat} {d : DataW H} {p : List MemPlace} (h : DataW.Trod enc Tryd.prog w 0 spare held 31 (.slice a len cap) d p) :
    ∃ xs : List Int, IntsAt w a xs ∧ xs.length = len ∧ len ≤ cap ∧ cap ≤ maxLen := by
  obtain ⟨fuel, hf⟩ := h
  rcases open_ints Tryd.underlying31 Tryd.underlying3 (by kernel_rfl) hf with ⟨hcs, _⟩ | ⟨x, l, c, zs, hcs, _, hl, hm, hz, _, hcell, _⟩
  · simp [Value.cells] at hcs
    obtain ⟨rfl, rfl, rfl⟩ := hcs
    exact ⟨[], .inl rfl, rfl, Nat.le_refl _, by unfold maxLen; omega⟩
  · simp [Value.cells] at hcs
    obtain ⟨rfl, rfl, rfl⟩ := hcs
    rcases Nat.eq_zero_or_pos len with h0 | h0
    · subst h0; exact ⟨[], .inl rfl, rfl, hl, hm⟩
    have hlz : len ≤ zs.length := by rw [hz]; split <;> omega
    have hs := World.cell?_spot (hcell 0 (by omega))
    have hs' : x.spot = none := by simpa [Addr.add] using hs
    obtain ⟨b, off, sp⟩ := x
    simp only at hs'
    subst hs'
    have hc0 := hcell 0 (by omega)
    refine ⟨zs.take len, .inr ⟨b, off, rfl, World.block_lt_of_cell? w ⟨b, off, none⟩ (by simpa [Addr.add] using hc0), fun i v hv => ?_⟩, by simp; omega, hl, hm⟩
    have hi : i < len := by have := (List.getElem?_eq_some_iff.1 hv).1; simp at this; omega
    have := hcell i (by omega)
    rw [List.getElem?_take, if_pos hi] at hv
    rw [List.getD_eq_getElem?_getD, hv, Option.getD_some] at this
    rw [← this]
    congr 1
    unfold Addr.add; split
    · subst_vars; rfl
    · rfl

theorem ret_b' {a b : Bool} (h : a = b) : Ending.returned (.bool a) = .returned (.bool b) := by rw [h]
def BoolPost (w : World) (r : Bool) (e : Ending) (w' : World) : Prop := e = .returned (.bool r) ∧ Ext w w'
theorem take_snoc' {α : Type} {xs : List α} {k : Nat} {v : α} (h : xs[k]? = some v) : xs.take (k + 1) = xs.take k ++ [v] := by
  rw [List.take_add_one, h]; rfl
set_option maxHeartbeats 1000000 in
theorem ints_any (w : World) (A B : Option Addr) (n m c d : Nat) (xs ys : List Int) (hx : IntsAt w A xs) (hy : IntsAt w B ys) (hn : xs.length = n) (hm : ys.length = m) (hnb : n ≤ 9223372036854775807) (hmb : m ≤ 9223372036854775807) (r : Bool) (hr : decide (xs = ys) = r) :
    Calls Tryd.prog 9 #[.slice A n c, .slice B m d] w (BoolPost w r) := by
  have HX := Lib.hid hx
  have HY := Lib.hid hy
  have HN := Lib.hid hn
  have HM := Lib.hid hm
  have HR := Lib.hid hr
  clear hx hy hn hm hr
  by_cases hnm : n = m
  · subst hnm
    go_enter Tryd.func9, Tryd.ntmps9
    go_wp2
    go_loopw [5] (fun v wr => ∃ k : Nat, k ≤ n ∧ v = .int .i64 k ∧ xs.take k = ys.take k ∧ Ext w wr) (fun v _ => n - (intOf v).toNat)
    case atStart => exact ⟨0, Nat.zero_le _, rfl, rfl, Ext.refl _⟩
    case round =>
      obtain ⟨k, hk, rfl, ht, he⟩ := hrel
      have HT := Lib.hid ht
      have HE := Lib.hid he
      by_cases hlt : k < n
      · rcases HX.out.ext he with h0 | ⟨b, off, rfl, _, hc⟩
        · have := HN.out; subst h0; simp at this; omega
        rcases HY.out.ext he with h0 | ⟨b', off', rfl, _, hc'⟩
        · have := HM.out; subst h0; simp at this; omega
        have hkx : k < xs.length := by rw [HN.out]; exact hlt
        have hky : k < ys.length := by rw [HM.out]; exact hlt
        obtain ⟨x, hxx⟩ : ∃ x, xs[k]? = some x := ⟨_, List.getElem?_eq_getElem hkx⟩
        obtain ⟨y, hyy⟩ : ∃ y, ys[k]? = some y := ⟨_, List.getElem?_eq_getElem hky⟩
        have c1 := hc k x hxx
        have c2 := hc' k y hyy
        have HXX := Lib.hid hxx
        have HYY := Lib.hid hyy
        have z0 : (0 : Int) ≤ (k : Int) := by omega
        have z1 : (k : Int) < (n : Int) := by omega
        clear hc hc' hxx hyy ht he hkx hky
        by_cases e : x = y
        · have e2 : (x != y) = false := by simp [e]
          have HEq := Lib.hid e
          clear e
          go_wp2
          go_quiet (fail)
          go_wp2
          go_roundw
          case rel => exact ⟨k + 1, by omega, by go_num, by rw [take_snoc' HXX.out, take_snoc' HYY.out, HT.out, HEq.out], HE.out.trans (Ext.drewN _ _)⟩
          case measure => simp [intOf]; omega
        · have e2 : (x != y) = true := by simpa using e
          have HEq := Lib.hid e
          clear e
          go_wp2
          go_quiet (fail)
          go_wp2
          go_ret
          refine ⟨ret_b' ?_, HE.out.trans (Ext.drewN _ _)⟩
          rw [← HR.out]; symm; rw [decide_eq_false_iff_not]
          intro h
          have := HXX.out
          rw [h, HYY.out] at this
          exact HEq.out (Option.some.inj this).symm
      · clear ht he
        go_wp2
        go_ret
        refine ⟨ret_b' ?_, HE.out⟩
        rw [← HR.out]; symm; rw [decide_eq_true_eq]
        have := HT.out
        have h1 := HN.out
        have h2 := HM.out
        rwa [List.take_of_length_le (by omega), List.take_of_length_le (by omega)] at this
  · have e2 : ((n : Int) != (m : Int)) = true := by simp; omega
    have e3 : (n != m) = true := by simp; omega
    have HE : Hid (false = r) := by
      unfold Hid
      rw [← HR.out]; symm; rw [decide_eq_false_iff_not]
      intro h; have := congrArg List.length h; rw [HN.out, HM.out] at this; exact hnm this
    clear hnm
    go_enter Tryd.func9, Tryd.ntmps9
    go_wp2
    go_ret
    exact ⟨ret_b' HE.out, Ext.refl _⟩
end Go.Proofs.YtckcbfnffmohgaaDoor
