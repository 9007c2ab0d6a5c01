/-
  Graphs of a call's own; facts that walks of statements on graphs share. Conditions: the graph lies in memory as 'GrI' says.
-/
import Derived.Test.YtlcnoihmhaaekaaBs36
import Derived.Test.YtlcnoihmhaaekaaBs37
namespace Go.Proofs.Ytlcnoihmhaaekaa
open Go Go.RowKit SQ TR DF PD PT
set_option linter.unusedVariables false

/-- A graph of the call's own. -/
structure GcS (w wr : World) (G : GrP) (n N : Nat) (A : List AK.Ed) (f : AK.Ed → GM.St) : Prop where
  at_ : GrI wr G n N A f
  ext : Ext w wr
  new : ∀ k, G.T k → w.heap.size ≤ k
section
variable {w wr w' : World} {G G' : GrP} {n N N' : Nat} {A A' : List AK.Ed} {f f' : AK.Ed → GM.St}
theorem GcS.moved (h : GcS w wr G n N A f) (hx : Ext wr w') : GcS w w' G n N A f := ⟨h.at_.ext hx, h.ext.trans hx, h.new⟩
theorem GcS.mono (h : GcS w wr G n N A f) (hN : N ≤ N') : GcS w wr G n N' A f := ⟨h.at_.mono hN, h.ext, h.new⟩
theorem GcS.step (h : GcS w wr G n N A f) (h' : GrI w' G' n N' A' f') (hc : GrC wr w' G G') : GcS w w' G' n N' A' f' :=
  ⟨h', h.ext.chg_new hc.chg (fun k hk => h.new k (.inl hk)), fun k hk => (hc.t k hk).elim (fun x => h.new k x) (fun x => Nat.le_trans h.ext.size x)⟩
theorem GcS.made {e : Ending} (hx : Ext w wr) (hp : GNewPost wr n e w') : ∃ G : GrP, e = .returned (.tuple #[.pointer (some ⟨G.gb, 0, none⟩), .nilIface]) ∧ GcS w w' G n n [] (fun _ => ⟨0, false⟩) ∧ Ext wr w' := by
  obtain ⟨G, rfl, h1, h2, h3, h4⟩ := hp
  refine ⟨G, rfl, ⟨⟨(h1 _).congr fun i _ => ?_, by rw [h2]; exact .start n _, by omega, Nat.le_refl _⟩, hx.trans h3, fun k hk => Nat.le_trans hx.size (h4 k hk)⟩, h3⟩
  rfl
/-- What was there ahead of it stays as it is. -/
theorem GcS.size_le (h : GcS w wr G n N A f) : w.heap.size ≤ wr.heap.size := h.ext.size
end
/-- Any Drop. -/
def GDropAll (w : World) (G : GrP) (n N : Nat) (A : List AK.Ed) (f : AK.Ed → GM.St) (a b : Int) (e : Ending) (w' : World) : Prop :=
  ((¬ (0 ≤ a ∧ a < n) ∨ ¬ (0 ≤ b ∧ b < n)) ∧ e = .returned (errV 1) ∧ Ext w w') ∨ ((0 ≤ a ∧ a < n) ∧ (0 ≤ b ∧ b < n) ∧ AK.ek a b ∉ A ∧ e = .returned (errV 4) ∧ Ext w w') ∨
    ((0 ≤ a ∧ a < n) ∧ (0 ≤ b ∧ b < n) ∧ AK.ek a b ∈ A ∧ GDropPost w G n N A f (AK.ek a b) e w')
section
variable {w wr w' : World} {G G' : GrP} {n N N' : Nat} {A A' : List AK.Ed} {f f' : AK.Ed → GM.St}
theorem gdrop_any (h : GrI w G n N A f) (hN : N + 4000 < 1000000) (hl : A.length ≤ 200) (a b : Int) : Calls Try.prog 19 #[.pointer (some ⟨G.gb, 0, none⟩), .int .i64 a, .int .i64 b] w (GDropAll w G n N A f a b) := by
  by_cases hr : ¬ (0 ≤ a ∧ a < n) ∨ ¬ (0 ≤ b ∧ b < n)
  · refine (gdrop_range h.m a b hr).mono ?_
    rintro e w' ⟨rfl, rfl⟩
    exact .inl ⟨hr, rfl, Ext.refl _⟩
  · obtain ⟨a', rfl⟩ := Int.eq_ofNat_of_zero_le (show 0 ≤ a by omega)
    obtain ⟨b', rfl⟩ := Int.eq_ofNat_of_zero_le (show 0 ≤ b by omega)
    by_cases hm : AK.ek (a' : Int) b' ∈ A
    · exact (gdrop_ok h hN hl (by omega) (by omega) hm).mono fun e w' q => .inr (.inr ⟨by omega, by omega, hm, q⟩)
    · refine (gdrop_none h.m a' b' (by omega) (by omega) hm).mono ?_
      rintro e w' ⟨rfl, hx⟩
      exact .inr (.inl ⟨by omega, by omega, hm, rfl, hx⟩)
/-- Add or Drop, whatever comes of it. -/
def GAny (w : World) (G : GrP) (n N : Nat) (e : Ending) (w' : World) : Prop := ∃ v G' A' f', e = .returned v ∧ GrI w' G' n (N + 4000) A' f' ∧ GrC w w' G G'
theorem gadd_all (h : GrI w G n N A f) (hN : N + 1 < 1000000) (a b : Int) (ha : -9223372036854775808 ≤ a ∧ a ≤ 9223372036854775807) (hb : -9223372036854775808 ≤ b ∧ b ≤ 9223372036854775807) :
    Calls Try.prog 17 #[.pointer (some ⟨G.gb, 0, none⟩), .int .i64 a, .int .i64 b] w fun e w' => ∃ v A' f', e = .returned v ∧ GrI w' G n (N + 4000) A' f' ∧ GrC w w' G G ∧ A'.length ≤ A.length + 1 := by
  refine (gadd_any h hN a b ha hb).mono ?_
  rintro e w' (⟨k, _, _, rfl, hx⟩ | ⟨_, s, rfl, h1, h2⟩)
  · exact ⟨_, A, f, rfl, (h.ext hx).mono (by omega), GrC.of_ext hx G, by omega⟩
  · exact ⟨_, _, _, rfl, h1.mono (by omega), h2, by rw [putE_length]; omega⟩
theorem cutE_len_le (x : AK.Ed) (A : List AK.Ed) : (cutE x A).length ≤ A.length := List.length_filter_le _ _
theorem gdrop_all (h : GrI w G n N A f) (hN : N + 4000 < 1000000) (hl : A.length ≤ 200) (a b : Int) :
    Calls Try.prog 19 #[.pointer (some ⟨G.gb, 0, none⟩), .int .i64 a, .int .i64 b] w fun e w' => ∃ v G' A' f', e = .returned v ∧ GrI w' G' n (N + 4000) A' f' ∧ GrC w w' G G' ∧ A'.length ≤ A.length := by
  refine (gdrop_any h hN hl a b).mono ?_
  rintro e w' (⟨_, rfl, hx⟩ | ⟨_, _, _, rfl, hx⟩ | ⟨_, _, _, G', f', rfl, h1, h2, _⟩)
  · exact ⟨_, G, A, f, rfl, (h.ext hx).mono (by omega), GrC.of_ext hx G, Nat.le_refl _⟩
  · exact ⟨_, G, A, f, rfl, (h.ext hx).mono (by omega), GrC.of_ext hx G, Nat.le_refl _⟩
  · exact ⟨_, G', _, f', rfl, h1, h2, cutE_len_le _ _⟩
/-- As many parts. -/
theorem tree_len (h : GrI w G n N A f) : PD.cnt (ldr A) n + (GM.lvl f A 0).length = n := by
  have h1 := ldr_count (h.k.fo 0)
  have : PD.cnt (ldr (GM.lvl f A 0)) n = PD.cnt (ldr A) n := by
    refine cnt_congr fun i _ => ?_
    rw [ldr_iff, ldr_iff]
    exact ⟨fun q u hu c => q u hu (h.k.joins.1 c), fun q u hu c => q u hu (h.k.joins.2 c)⟩
  omega
theorem comp_joins (h : GrI w G n N A f) (a : Nat) : comp n (GM.lvl f A 0) a = comp n A a :=
  up_ext (comp_up ..) (comp_up ..) fun x => by
    rw [comp_mem, comp_mem]
    exact ⟨fun ⟨u, h1, h2, h3⟩ => ⟨u, h1, h.k.joins.2 h2, h3⟩, fun ⟨u, h1, h2, h3⟩ => ⟨u, h1, h.k.joins.1 h2, h3⟩⟩
end
end Go.Proofs.Ytlcnoihmhaaekaa
