/-
  Blocks of a disk by their types; a Go call as a step of a region that draws; parts of code. No conditions.
-/
import Derived.Test.YtenjblonepegfaaDoorRd1
import Derived.Test.YtenjblonepegfaaDoorTd2
import Derived.Test.YtenjblonepegfaaDoorArg4
import Derived.Test.YtenjblonepegfaaDoorMem3
import Derived.Deep.RegionLaw
namespace Go.Proofs.YtenjblonepegfaaDoor
open Go Go.RowKit
set_option linter.unusedVariables false

theorem own_blk3 {w : World} {base : Nat} {e : TypeId} {size n : Nat} {v : Value} {xs : List Value} (h : w.ownsRow base e size v n xs) {k : Nat} (hk : v.ownBlock = some k) : ∃ cs, Blk w k e cs := by
  rcases h.2 with ⟨rfl, _⟩ | ⟨g, cap, cur, rfl, _, hg, _⟩
  · simp [Value.ownBlock] at hk
  · simp [Value.ownBlock] at hk; subst hk; exact ⟨_, hg⟩
theorem DAt.typ {w : World} {u : Dsk} {n : Nat} {d : DK.D} (h : DAt w u n d) {k : Nat} (hk : u.fp k) : ∃ t cs, Blk w k t cs ∧ (t = 118 ∨ t = 124 ∨ t = 126) := by
  rcases hk with rfl | rfl | rfl | hk
  · exact ⟨_, _, h.blk, .inl rfl⟩
  · obtain ⟨cs, hb⟩ := own_blk3 (k := u.gk) h.rk (by simp [Value.ownBlock]); exact ⟨_, cs, hb, .inr (.inl rfl)⟩
  · obtain ⟨cs, hb⟩ := own_blk3 (k := u.gn) h.rn (by simp [Value.ownBlock]); exact ⟨_, cs, hb, .inr (.inl rfl)⟩
  · obtain ⟨cs, hb⟩ := own_blk3 h.rw hk; exact ⟨_, cs, hb, .inr (.inr rfl)⟩
theorem blk_same {w : World} {k : Nat} {t t' : TypeId} {cs cs' : Array Value} (h : Blk w k t cs) (h' : Blk w k t' cs') : t = t' := by
  unfold Blk at h h'
  rw [h] at h'
  injection h' with h'
  injection h' with h1 h2
theorem DAt.nopage {w : World} {u : Dsk} {n : Nat} {d : DK.D} (h : DAt w u n d) {k : Nat} (hk : u.fp k) : ∀ cs, ¬ Blk w k 5 cs := fun cs hb => by
  obtain ⟨t, cs', hb', ht⟩ := h.typ hk
  have := blk_same hb hb'
  subst this
  rcases ht with h | h | h <;> revert h <;> decide
theorem step_call {P : Program} {ops : Array Oper} {o : Oper} {a : Act} {w : World} {K : Act → World → Prop} {Q : Exit → Act → World → Prop} {E : Prop} {Post : Ending → World → Prop}
    (hg : o.guard = none) (f : Nat) (args : Array Operand) (tys : Array TypeId) (hop : o.op = .call { callee := .value (.func f), args := args, argTypes := tys }) (vs : Array Value) (hv : args.map a.eval = vs)
    (hcf : (callFunc f vs).run P w = .ok (.enter f vs) w) (hc : Calls P f vs w Post)
    (hK : ∀ e w', Post e w' → ∃ v, e = .returned v ∧ K (a.put o.dst v) w') :
    if Region.wanted o (yielded ops a.tmps) = true then Oper.wp P o a w K Q else E := by
  have hw : Region.wanted o (yielded ops a.tmps) = true := by simp [Region.wanted, hg]
  rw [if_pos hw]
  have hr : (execOp a.eval o).run P w = .ok (.enter f vs) w := by
    subst hv
    simp [execOp, hop, resolve, invoke, Act.eval, Deferred.ofValue, hcf]
  unfold Oper.wp
  rw [hr, Oper.upon_enter]
  refine hc.mono (fun e w' h => ?_)
  obtain ⟨v, rfl, h2⟩ := hK e w' h
  exact h2
def cFst : Code → Code | .seq a _ => a | c => c
def cSnd : Code → Code | .seq _ b => b | c => c
def cArm : Code → Code | .block _ c => c | .loop c => c | c => c
def cBody (f : Func) : Code := match f.body with | some c => c | none => .skip
end Go.Proofs.YtenjblonepegfaaDoor
