/-
  Walk of the references' Do. Conditions: the edges and the events lie in memory as said.
  Walk of the references' Do. Conditions: the edges and the events lie in memory as said.
-/
import Derived.Test.YtckcbfnffmohgaaGreatBs20
import Derived.Test.YtckcbfnffmohgaaGreatBs34
import Derived.Test.YtckcbfnffmohgaaGreatBs30
import Derived.Test.YtckcbfnffmohgaaGreatBs35
import Derived.Deep.DeepCutAuto
namespace Go.Proofs.YtckcbfnffmohgaaGreat
open Go Go.RowKit SQ TR DF PD PT
set_option linter.unusedVariables false

theorem pinD {l : List AK.Ed} {x : AK.Ed} (h : x ∈ l) : ∃ j : Nat, RF.placeV (RF.place l x) = (j : Int) ∧ l[j]? = some x := by
  cases e : RF.place l x with
  | none => exact absurd h (RF.place_mem.1 e)
  | some i => exact ⟨i, rfl, RF.place_get e⟩
theorem poutD {l : List AK.Ed} {x : AK.Ed} (h : x ∉ l) : RF.placeV (RF.place l x) = -1 := by
  rw [RF.place_mem.2 h]; rfl
/-- The reference's edges and answers so far. -/
structure RdS (w wr : World) (n : Nat) (A : List AK.Ed) (Ax : Option Addr) (cx : Nat) (vO : Value) (xs : List Bool) : Prop where
  ed : EdsAt wr Ax A
  cap : A.length ≤ cx ∧ cx ≤ maxLen
  ok : ∀ x ∈ A, 0 ≤ x.1 ∧ x.1 < x.2 ∧ x.2 < (n : Int)
  up : A.Pairwise ltE
  row : wr.ownsRow 0 4 1 vO xs.length (bolV xs)
  new : ∀ j, vO.ownBlock = some j → w.heap.size ≤ j
  off : A ≠ [] → ∀ x, Ax = some x → vO.ownBlock ≠ some x.block
  ext : Ext w wr
  bk : A ≠ [] → ∀ x, Ax = some x → ∃ cs, Blk wr x.block 32 cs
section
variable {w wr w' W w5 : World} {n cx c4 : Nat} {A L : List AK.Ed} {Ax A4 : Option Addr} {vO : Value} {xs : List Bool}
theorem RdS.moved (h : RdS w wr n A Ax cx vO xs) (hx : Ext wr w') : RdS w w' n A Ax cx vO xs :=
  ⟨h.ed.ext hx, h.cap, h.ok, h.up, own_chg h.row (Chg.of_below hx) (fun k hk => by have := own_lt h.row hk; omega), h.new, h.off, h.ext.trans hx, fun hne x hA => by
    obtain ⟨cs, hb⟩ := h.bk hne x hA
    exact ⟨cs, hb.chg (Chg.of_below hx) (by have := hb.lt; omega)⟩⟩
/-- Another row of edges is there. -/
theorem RdS.put (h : RdS w wr n A Ax cx vO xs) (hx : Ext wr w') (hd : DRow w' (.slice A4 L.length c4) L) (hn : ∀ j, (Value.slice A4 L.length c4).ownBlock = some j → wr.heap.size ≤ j) (hok : ∀ x ∈ L, 0 ≤ x.1 ∧ x.1 < x.2 ∧ x.2 < (n : Int)) (hup : L.Pairwise ltE) : RdS w w' n L A4 c4 vO xs := by
  have m := h.moved hx
  have hed := DRow.eds hd rfl
  refine ⟨hed.1, ⟨hed.2, own_capmax (show w'.ownsRow 0 32 2 (.slice A4 L.length c4) L.length (rowsOf edC L) from hd)⟩, hok, hup, m.row, m.new, fun hne x hA e => ?_, m.ext, fun hne x hA => own_blkB (show w'.ownsRow 0 32 2 (.slice A4 L.length c4) L.length (rowsOf edC L) from hd) (by subst hA; rfl)⟩
  have h1 := own_lt h.row e
  have h2 := hn x.block (by subst hA; rfl)
  omega
end
end Go.Proofs.YtckcbfnffmohgaaGreat
namespace Go.Proofs.YtckcbfnffmohgaaGreat
open Go Go.RowKit SQ TR DF PD PT
set_option linter.unusedVariables false

section
variable {w wr w' W w5 : World} {n cx c q g : Nat} {A : List AK.Ed} {Ax : Option Addr} {vO : Value} {xs : List Bool} {b : Bool}
theorem RdS.rowq (h : RdS w wr n A Ax cx vO xs) (hq : xs.length = q) : wr.ownsRow 0 4 1 vO q (bolV xs) := by subst hq; exact h.row
theorem RdS.push (h : RdS w wr n A Ax cx vO xs) (hq : xs.length = q) (hW : Ext wr W) (ho : w5.ownsRow 0 4 1 (.slice (some ⟨g, 0, none⟩) (q + 1) c) (q + 1) (bolV xs ++ [.bool b])) (hc : Chg (fun j => vO.ownBlock = some j) W w5) (hat : vO.ownBlock = some g ∨ g = W.heap.size) :
    RdS w w5 n A Ax cx (.slice (some ⟨g, 0, none⟩) (q + 1) c) (xs ++ [b]) := by
  subst hq
  have m := h.moved hW
  refine ⟨m.ed.chg hc (fun hne x hA => m.off hne x hA), m.cap, m.ok, m.up, ?_, fun j hj => ?_, fun hne x hA e => ?_, m.ext.chg_new hc (fun k hk => h.new k hk), fun hne x hA => by
    obtain ⟨cs, hb⟩ := m.bk hne x hA
    exact ⟨cs, hb.chg hc (fun e => own_ne m.row hb (by decide) e)⟩⟩
  · unfold bolV at ho ⊢
    rw [List.length_append, List.map_append]
    exact ho
  · obtain rfl : g = j := by simpa [Value.ownBlock] using hj
    rcases hat with hat | hat
    · exact h.new _ hat
    · have := m.ext.size; omega
  · have e2 : g = x.block := by simpa [Value.ownBlock] using e
    rcases hat with hat | hat
    · exact h.off hne x hA (by rw [hat, e2])
    · rcases h.ed with h0 | ⟨b0, o, he, hb, _⟩
      · exact hne h0
      · rw [he] at hA; injection hA with hA; subst hA
        have := hW.size
        simp only at e2
        omega
end
/-- What the references' Do leaves. -/
def RdPost (w : World) (n : Nat) (A : List AK.Ed) (l : List AK.Ev) (Ax : Option Addr) (cx : Nat) (e : Ending) (w' : World) : Prop :=
  (∃ k : Nat, ((120 < l.length ∧ k = 3) ∨ (l.length ≤ 120 ∧ ∃ i V x y, DS.Okay n l A i ∧ l[i]? = some (⟨V, x, y⟩ : AK.Ev) ∧ DS.flt n (DS.run n l A i).1 V x y = k ∧ k ≠ 0)) ∧ e = .returned (.tuple #[.slice none 0 0, .slice Ax A.length cx, .int .i64 k]) ∧ Ext w w') ∨
  (l.length ≤ 120 ∧ DS.Okay n l A l.length ∧ ∃ Ao co An cn, e = .returned (.tuple #[.slice Ao (DS.run n l A l.length).2.length co, .slice An (DS.run n l A l.length).1.length cn, .int .i64 0]) ∧ RdS w w' n (DS.run n l A l.length).1 An cn (.slice Ao (DS.run n l A l.length).2.length co) (DS.run n l A l.length).2)
end Go.Proofs.YtckcbfnffmohgaaGreat
