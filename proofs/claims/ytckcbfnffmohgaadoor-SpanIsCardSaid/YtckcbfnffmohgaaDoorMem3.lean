/-
  Rows of one's own: of two kinds they are two; a row of whatever length behind one. No conditions.
-/
import Derived.Test.YtckcbfnffmohgaaDoorMem2
import Derived.Laws.AppendOwnNone
namespace Go.Proofs.YtckcbfnffmohgaaDoor
open Go Go.RowKit
set_option linter.unusedVariables false

theorem own_slice3 {w : World} {base : Nat} {e : TypeId} {size : Nat} {v : Value} {n : Nat} {xs : List Value} (h : w.ownsRow base e size v n xs) : ∃ A c, v = .slice A n c ∧ n ≤ c := by
  rcases h.2 with ⟨rfl, rfl⟩ | ⟨g, cap, cur, rfl, _, _, h1, _⟩
  · exact ⟨none, 0, rfl, Nat.le_refl _⟩
  · exact ⟨_, cap, rfl, h1⟩
theorem own_neq {w : World} {base base' : Nat} {e e' : TypeId} {size size' : Nat} {v v' : Value} {n n' : Nat} {xs xs' : List Value} (h : w.ownsRow base e size v n xs) (h' : w.ownsRow base' e' size' v' n' xs') (hne : e ≠ e') {k : Nat} (hk : v.ownBlock = some k) : v'.ownBlock ≠ some k := by
  rcases h.2 with ⟨rfl, _⟩ | ⟨g, cap, cur, rfl, _, hg, _⟩
  · simp [Value.ownBlock] at hk
  · simp [Value.ownBlock] at hk; subst hk
    rcases h'.2 with ⟨rfl, _⟩ | ⟨g', cap', cur', rfl, _, hg', _⟩
    · simp [Value.ownBlock]
    · intro hk; simp [Value.ownBlock] at hk; subst hk
      rw [hg] at hg'
      injection hg' with h1
      injection h1 with _ h2
      exact hne h2
/-- A row of whatever length behind a row of one's own. -/
theorem wpList_append_rows {P : Program} (w : World) {ops : Array Oper} {rest : List Oper} {o : Oper} {a : Act} {Q : Exit → Act → World → Prop} (hgd : o.guard = none) (s x : Operand) (t : TypeId)
    (ho : o.op = .call { callee := .builtin .append, args := #[s, x], argTypes := #[t, t] })
    (e : TypeId) (z : Value) (size bytes : Nat) (ht : P.underlying t = some (.slice e)) (hinfo : (P.info? e).map (fun i => (i.zero, i.size, i.bytes)) = some (some z, size, bytes)) (hzs : z.cells.size = size) (hsz : 0 < size)
    (v : Value) (n : Nat) (xs : List Value) (hs : a.eval s = v) (hown : w.ownsRow 0 e size v n xs)
    (ao : Option Addr) (m c : Nat) (news : List Value) (hx : a.eval x = .slice ao m c) (hl : news.length = m * size) (hno : ao = none → m = 0 ∧ c = 0) (hB : ∀ ad, ao = some ad → ∀ j u, news[j]? = some u → w.cell? (ad.add j) = some u) (h1 : ∀ u ∈ news, u.oneCell' = true) (hsm : n + m ≤ 1000000 ∧ bytes ≤ 1000)
    (h : ∀ A' c' w', w'.ownsRow 0 e size (.slice A' (n + m) c') (n + m) (xs ++ news) → Chg (fun k => v.ownBlock = some k) w w' → (∀ g, (Value.slice A' (n + m) c').ownBlock = some g → v.ownBlock = some g ∨ g = w.heap.size) → wpList P ops Q rest (a.put o.dst (.slice A' (n + m) c')) w') : wpList P ops Q (o :: rest) a w := by
  obtain ⟨i, hi, hz0, hz1, hz2⟩ := info_parts hinfo
  cases ao with
  | none =>
    obtain ⟨rfl, rfl⟩ := hno rfl
    obtain rfl : news = [] := List.eq_nil_of_length_eq_zero (by simpa using hl)
    refine wpList_append_own_none hgd s x t ho 0 e i size ht hi v n xs hs hown hx ?_
    obtain ⟨A', c', rfl, _⟩ := own_slice3 hown
    have := h A' c' w (by simpa using hown) (Chg.refl _ _) (fun g hg => .inl hg)
    simpa using this
  | some ad =>
    have hm : (n + m) * bytes ≤ 140737488355328 := Nat.le_trans (Nat.mul_le_mul hsm.1 hsm.2) (by decide)
    refine wpList_append_own_at w hgd s x t ho 0 e i z size bytes ht hi hz0 hz1 hz2 hzs hsz v n xs hs hown ad m c news hx hl (hB ad rfl) h1 (by unfold maxLen; omega) hm (Nat.zero_le _) ?_
    intro v' w' hown' hgr _ hat
    obtain ⟨A', c', rfl, _⟩ := own_slice3 hown'
    refine h A' c' w' hown' ((Chg.of_grown hgr).mono (fun k _ hk => hk.symm)) fun g hg => ?_
    rcases hat with hat | hat
    · exact .inl (by rw [← hat]; exact hg)
    · right; rw [hat] at hg; exact (Option.some.inj hg).symm

/-- append leaves what was ahead of it where it was. -/
theorem run_append_keeps {P : Program} (w : World) (t ty e : TypeId) (i : TypeInfo) (z : Value) (size bytes : Nat) (ht : P.underlying t = some (.slice e)) (hi : P.info? e = some i) (hz : i.zero = some z)
    (hsize : i.size = size) (hby : i.bytes = bytes) (hzs : z.cells.size = size) (hsz : 0 < size) (g n cap : Nat) (xs : List Value) (hown : w.ownsRow 0 e size (.slice (some ⟨g, 0, none⟩) n cap) n xs)
    (a : Addr) (m c : Nat) (news : List Value) (hl : news.length = m * size) (hnews : ∀ j u, news[j]? = some u → w.cell? (a.add j) = some u) (h1 : ∀ u ∈ news, u.oneCell' = true) (hm0 : 0 < m)
    (h63 : n + m ≤ maxLen) (hbytes : (n + m) * bytes ≤ 140737488355328) :
    ∃ g' cap' w', (Builtin.append_ #[t, t] ty #[.slice (some ⟨g, 0, none⟩) n cap, .slice (some a) m c]).run P w = .ok (.slice (some ⟨g', 0, none⟩) (n + m) cap') w' ∧ w'.ownsRow 0 e size (.slice (some ⟨g', 0, none⟩) (n + m) cap') (n + m) (xs ++ news) ∧
      w.grownBy w' (some g) ∧ (g' = g ∨ g' = w.heap.size) ∧ w'.ownsRow 0 e size (.slice (some ⟨g, 0, none⟩) n cap) n xs := by
  by_cases hroom : n + m ≤ cap
  · obtain ⟨w', hr, ho, hg⟩ := run_append_fits (P := P) w 0 t ty e i size ht hi hsize g n cap xs hown a m c news hl hnews h1 hroom
    refine ⟨g, cap, w', hr, ho, hg, .inl rfl, ?_⟩
    have := own_take ho (show n ≤ n + m by omega)
    rwa [← hown.1, List.take_left] at this
  · obtain ⟨v', w', hr, ho, hg, _, hat⟩ := run_append_own_at (P := P) w 0 t ty e i z size bytes ht hi hz hsize hby hzs hsz _ n xs hown a m c news hl hnews h1 h63 hbytes (Nat.zero_le _)
    obtain ⟨g', cap', rfl, _, _⟩ := own_form ho (by omega)
    subst hsize
    have hsmall : n + m ≤ 9223372036854775807 := by simp only [maxLen] at h63; omega
    have hr2 := run_append_grow (P := P) w t ty e i z ht hi hz ⟨g, 0, none⟩ n cap xs hown.1 (hown.cells (g := g) rfl) a m c news hl hnews (by omega) (by omega) (growslice_fits (by omega) (by rw [hby]; exact hbytes))
    rw [hr2] at hr
    injection hr with hv hw
    subst hw
    refine ⟨g', cap', _, by rw [hr2, hv], ho, hg, ?_, ?_⟩
    · rcases hat with hat | hat
      · left; simpa [Value.ownBlock] using hat
      · right; simpa [Value.ownBlock] using hat
    · refine own_chg (S := fun _ => False) hown ?_ (fun _ _ h => h)
      exact ((Chg.refl (fun _ => False) w).drew).alloc _
/-- Some values more behind a row of one's own, at a step of a region that draws its order (elements of one cell). -/
theorem step_pushes {P : Program} (w : World) {ops : Array Oper} {o : Oper} {a : Act} {K : Act → World → Prop} {Q : Exit → Act → World → Prop} {E : Prop} (hgd : o.guard = none) (s x : Operand) (t : TypeId)
    (ho : o.op = .call { callee := .builtin .append, args := #[s, x], argTypes := #[t, t] })
    (e : TypeId) (z : Value) (bytes : Nat) (ht : P.underlying t = some (.slice e)) (hinfo : (P.info? e).map (fun i => (i.zero, i.size, i.bytes)) = some (some z, 1, bytes)) (hzs : z.cells.size = 1)
    (gv cv n : Nat) (xs : List Value) (hs : a.eval s = .slice (some ⟨gv, 0, none⟩) n cv) (hown : w.ownsRow 0 e 1 (.slice (some ⟨gv, 0, none⟩) n cv) n xs) (m : Nat) (hm0 : 0 < m) (hsm : n + m ≤ 1000000 ∧ bytes ≤ 1000)
    (news : List Value) (B : Nat) (hx : a.eval x = .slice (some ⟨B, 0, none⟩) m m) (hl : news.length = m) (hB : ∀ j u, news[j]? = some u → w.cell? ((⟨B, 0, none⟩ : Addr).add j) = some u) (h1 : ∀ u ∈ news, u.oneCell' = true)
    (h : ∀ g c w', w'.ownsRow 0 e 1 (.slice (some ⟨g, 0, none⟩) (n + m) c) (n + m) (xs ++ news) → Chg (fun k => (Value.slice (some ⟨gv, 0, none⟩) n cv).ownBlock = some k) w w' → (∀ g', (Value.slice (some ⟨g, 0, none⟩) (n + m) c).ownBlock = some g' → (Value.slice (some ⟨gv, 0, none⟩) n cv).ownBlock = some g' ∨ g' = w.heap.size) →
      w'.ownsRow 0 e 1 (.slice (some ⟨gv, 0, none⟩) n cv) n xs → K (a.put o.dst (.slice (some ⟨g, 0, none⟩) (n + m) c)) w') :
    if Region.wanted o (yielded ops a.tmps) = true then Oper.wp P o a w K Q else E := by
  obtain ⟨i, hi, hz0, hz1, hz2⟩ := info_parts hinfo
  have hm : (n + m) * bytes ≤ 140737488355328 := Nat.le_trans (Nat.mul_le_mul hsm.1 hsm.2) (by decide)
  have hw : Region.wanted o (yielded ops a.tmps) = true := by simp [Region.wanted, hgd]
  rw [if_pos hw]
  obtain ⟨g, c, w', hr, h2, h3, h4, h5⟩ := run_append_keeps (P := P) w t o.type e i z 1 bytes ht hi hz0 hz1 hz2 hzs (by omega) gv n cv xs hown ⟨B, 0, none⟩ m m news (by omega) hB h1 hm0 (by unfold maxLen; omega) hm
  unfold Oper.wp execOp
  simp only [ho, resolve, invoke, builtin, Sem.run_bind, Sem.run_pure, Result.andThen_ok, List.map_toArray, List.map_cons, List.map_nil, hs, hx, hr]
  exact h g c w' h2 ((Chg.of_grown h3).mono (fun k _ hk => by simp [Value.ownBlock, hk])) (fun g' hg' => by simp [Value.ownBlock] at hg'; subst hg'; rcases h4 with h4 | h4; (left; simp [Value.ownBlock, h4]); exact .inr h4) h5
theorem own_capmax {w : World} {base : Nat} {e : TypeId} {size n c m : Nat} {A : Option Addr} {xs : List Value} (h : w.ownsRow base e size (.slice A n c) m xs) : c ≤ maxLen := by
  rcases h.2 with ⟨h0, _⟩ | ⟨g, cap, cur, h0, _, _, _, h1, _⟩
  · simp at h0; rw [h0.2.2]; exact Nat.zero_le _
  · simp at h0; rw [h0.2.2]; exact h1
theorem own_none {w : World} {base : Nat} {e : TypeId} {size n c m : Nat} {xs : List Value} (h : w.ownsRow base e size (.slice none n c) m xs) : n = 0 ∧ c = 0 := by
  rcases h.2 with ⟨h0, _⟩ | ⟨g, cap, cur, h0, _⟩
  · simp at h0; exact ⟨h0.1, h0.2⟩
  · simp at h0
end Go.Proofs.YtckcbfnffmohgaaDoor
