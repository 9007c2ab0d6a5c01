/-
  One element of several cells more behind a row of one's own; a row's block is no map's. No conditions.
-/
import Derived.Test.YtckcbfnffmohgaaDoorDk
import Derived.Laws.OwnMore
namespace Go.Proofs.YtckcbfnffmohgaaDoor
open Go Go.RowKit
set_option linter.unusedVariables false

theorem news_cells {w : World} {H : Nat} (hH : w.heap.size = H) (Y : List Value) (t : TypeId) : ∀ j u, Y[j]? = some u → (w.alloc (.cells Y.toArray t)).cell? ((⟨H, 0, none⟩ : Addr).add j) = some u := by
  subst hH
  intro j u hj
  have := (Blk.new w t Y.toArray).cell j
  rw [Addr.add_mid, Nat.zero_add, this]; simpa using hj
theorem wpList_pushS {P : Program} (w : World) {ops : Array Oper} {rest : List Oper} {o : Oper} {a : Act} {Q : Exit → Act → World → Prop} (hgd : o.guard = none) (s x : Operand) (t : TypeId)
    (ho : o.op = .call { callee := .builtin .append, args := #[s, x], argTypes := #[t, t] })
    (e : TypeId) (z : Value) (size bytes : Nat) (ht : P.underlying t = some (.slice e)) (hinfo : (P.info? e).map (fun i => (i.zero, i.size, i.bytes)) = some (some z, size, bytes)) (hzs : z.cells.size = size) (hsz : 0 < size)
    (v : Value) (n : Nat) (xs : List Value) (hs : a.eval s = v) (hown : w.ownsRow 0 e size v n xs) (hsm : n ≤ 1000000 ∧ bytes ≤ 1000)
    (news : List Value) (B : Nat) (hx : a.eval x = .slice (some ⟨B, 0, none⟩) 1 1) (hl : news.length = size) (hB : ∀ j u, news[j]? = some u → w.cell? ((⟨B, 0, none⟩ : Addr).add j) = some u) (h1 : ∀ u ∈ news, u.oneCell' = true)
    (h : ∀ g c w', w'.ownsRow 0 e size (.slice (some ⟨g, 0, none⟩) (n + 1) c) (n + 1) (xs ++ news) → Chg (fun k => v.ownBlock = some k) w w' → (v.ownBlock = some g ∨ g = w.heap.size) → n + 1 ≤ c → wpList P ops Q rest (a.put o.dst (.slice (some ⟨g, 0, none⟩) (n + 1) c)) w') : wpList P ops Q (o :: rest) a w := by
  obtain ⟨i, hi, hz0, hz1, hz2⟩ := info_parts hinfo
  have hm : (n + 1) * bytes ≤ 140737488355328 := Nat.le_trans (Nat.mul_le_mul (show n + 1 ≤ 1000001 by omega) hsm.2) (by decide)
  refine wpList_append_own_at w hgd s x t ho 0 e i z size bytes ht hi hz0 hz1 hz2 hzs hsz v n xs hs hown ⟨B, 0, none⟩ 1 1 news hx (by omega) hB h1 (by unfold maxLen; omega) hm (Nat.zero_le _) ?_
  intro v' w' hown' hgr _ hat
  obtain ⟨g, c, hv, hc, _⟩ := own_form hown' (by omega)
  subst hv
  refine h g c w' hown' ((Chg.of_grown hgr).mono (fun k _ hk => hk.symm)) ?_ hc
  rcases hat with hat | hat
  · exact .inl (by rw [← hat]; rfl)
  · right; simpa [Value.ownBlock] using hat
theorem chg_at (w : World) (g i : Nat) (v : Value) : Chg (fun k => k = g) w (w.setCell ⟨g, i, none⟩ v) := (Chg.refl (fun k => k = g) w).setCell (p := ⟨g, i, none⟩) (fun _ => rfl) v
end Go.Proofs.YtckcbfnffmohgaaDoor
