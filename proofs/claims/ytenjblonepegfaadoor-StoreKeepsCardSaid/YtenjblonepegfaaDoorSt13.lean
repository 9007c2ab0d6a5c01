/-
  What store.Open finds, in plain Lean; append of bytes in a region that draws. No conditions.
-/
import Derived.Test.YtenjblonepegfaaDoorSt12
namespace Go.Proofs.YtenjblonepegfaaDoor
open Go Go.RowKit
set_option linter.unusedVariables false

/-- A page of a head: a head's, or blank. -/
def HeadAt (d : DK.D) (i : Nat) (t l : Int) : Prop := (d.now[i]? = some (DK.put (hbs t l)) ∧ 0 ≤ t ∧ t ≤ 200 ∧ 0 ≤ l ∧ l ≤ 960 ∧ t % 2 = (i : Int)) ∨ (d.now[i]? = some DK.zero ∧ t = -1 ∧ l = 0)
theorem readat_any (w : World) (u : Dsk) (n : Nat) (d : DK.D) (h : DAt w u n d) (i : Nat) (t l : Int) (hp : HeadAt d i t l) :
    Calls Tryd.prog 80 #[.pointer (some ⟨u.g, 0, none⟩), .int .i64 i] w (ReadHead w t l) := by
  rcases hp with ⟨h1, h2, h3, h4, h5, h6⟩ | ⟨h1, rfl, rfl⟩
  · exact readhead_any w u n d h i t l h2 h3 h4 h5 h6 h1
  · exact readzero_any w u n d h i h1
/-- The best of the heads that were read. -/
def bestH (T L : Nat → Int) : Nat → Int × Int
  | 0 => (-1, 0)
  | i + 1 => if (bestH T L i).1 < T i then (T i, L i) else bestH T L i
theorem best_yes {T L : Nat → Int} {i : Nat} (h : (bestH T L i).1 < T i) : bestH T L (i + 1) = (T i, L i) := by simp [bestH, h]
theorem best_no {T L : Nat → Int} {i : Nat} (h : ¬ (bestH T L i).1 < T i) : bestH T L (i + 1) = bestH T L i := by simp [bestH, h]
theorem step_append_bytes {P : Program} (w : World) {ops : Array Oper} {o : Oper} {a : Act} {K : Act → World → Prop} {Q : Exit → Act → World → Prop} {E : Prop} (hgd : o.guard = none) (s x : Operand) (t : TypeId)
    (ho : o.op = .call { callee := .builtin .append, args := #[s, x], argTypes := #[t, t] })
    (e : TypeId) (z : Value) (bytes : Nat) (ht : P.underlying t = some (.slice e)) (hinfo : (P.info? e).map (fun i => (i.zero, i.size, i.bytes)) = some (some z, 1, bytes)) (hzs : z.cells.size = 1)
    (v : Value) (n : Nat) (xs : List Value) (hs : a.eval s = v) (hown : w.ownsRow 0 e 1 v n xs) (ad : Addr) (m c : Nat) (news : List Value) (hx : a.eval x = .slice (some ad) m c) (hl : news.length = m) (hnews : ∀ j u, news[j]? = some u → w.cell? (ad.add j) = some u) (h1 : ∀ u ∈ news, u.oneCell' = true) (hm : 0 < m) (hsm : n + m ≤ 1000000 ∧ bytes ≤ 1000)
    (h : ∀ g c w', w'.ownsRow 0 e 1 (.slice (some ⟨g, 0, none⟩) (n + m) c) (n + m) (xs ++ news) → Chg (fun k => v.ownBlock = some k) w w' → (v.ownBlock = some g ∨ g = w.heap.size) → K (a.put o.dst (.slice (some ⟨g, 0, none⟩) (n + m) c)) w') :
    if Region.wanted o (yielded ops a.tmps) = true then Oper.wp P o a w K Q else E := by
  obtain ⟨i, hi, hz0, hz1, hz2⟩ := info_parts hinfo
  have hmul : (n + m) * bytes ≤ 140737488355328 := Nat.le_trans (Nat.mul_le_mul hsm.1 hsm.2) (by decide)
  refine step_append_lies w hgd s x t ho 0 e i z 1 bytes ht hi hz0 hz1 hz2 hzs (by omega) v n xs hs hown ad m c news hx (by omega) hnews h1 hm (by unfold maxLen; omega) hmul (Nat.zero_le _) w.heap.size rfl ?_
  intro g c w' hown' hgr hat _
  exact h g c w' hown' ((Chg.of_grown hgr).mono (fun k _ hk => hk.symm)) hat
theorem put_get {b : List Int} (h : b.length ≤ 32) {j : Nat} {v : Int} (hv : b[j]? = some v) : (DK.put b)[j]? = some v := by
  have hj : j < b.length := (List.getElem?_eq_some_iff.1 hv).1
  unfold DK.put
  rw [splice_get (by simpa [DK.zero] using h), if_pos ⟨Nat.zero_le _, by omega⟩]
  exact hv
theorem page_cells {w : World} {bg bc : Nat} {p : List Int} (h : w.ownsRow 0 5 1 (.slice (some ⟨bg, 0, none⟩) 32 bc) 32 (DK.pgv (DK.put p))) (hp : p.length ≤ 32) : ∀ j u, (DK.pgv p)[j]? = some u → w.cell? ((⟨bg, 0, none⟩ : Addr).add j) = some u := fun j u hj => by
  simp only [DK.pgv, List.getElem?_map, Option.map_eq_some_iff] at hj
  obtain ⟨y, hy, rfl⟩ := hj
  have hjl : j < p.length := (List.getElem?_eq_some_iff.1 hy).1
  rw [Addr.add_mid, Nat.zero_add, h.cellAt j (by omega), DK.pgv, List.getElem?_map, put_get hp hy]; rfl
theorem pgv_next (b : List Int) (i : Nat) : DK.pgv (b.take (32 * i)) ++ DK.pgv ((b.drop (32 * i)).take 32) = DK.pgv (b.take (32 * (i + 1))) := by
  rw [show 32 * (i + 1) = 32 * i + 32 by omega, List.take_add, DK.pgv, DK.pgv, DK.pgv, List.map_append]
/-- What Open leaves. -/
def OpenPost (w : World) (u : Dsk) (t : Nat) (b : List Int) (e : Ending) (w' : World) : Prop := ∃ g v, e = .returned (.tuple #[.pointer (some ⟨g, 0, none⟩), .nilIface]) ∧ SoAt w' g u.g t v false b ∧ Ext w w' ∧ w.heap.size ≤ g ∧ ∀ k, v.ownBlock = some k → w.heap.size ≤ k
def OpR (w : World) (gb : Nat) (bt bl : Int) (wr : World) : Prop := Ext w wr ∧ Blk wr gb 156 #[.int .i64 bt, .int .i64 bl]
def OpS (w : World) (u : Dsk) (gb gs : Nat) (t l : Nat) (b : List Int) (i : Nat) (wr : World) : Prop := OpR w gb t l wr ∧ ∃ v, Blk wr gs 160 #[.pointer (some ⟨u.g, 0, none⟩), .int .i64 t, .int .i64 l, v, .bool false] ∧ wr.ownsRow 0 5 1 v (b.take (32 * i)).length (DK.pgv (b.take (32 * i))) ∧ (∀ k, v.ownBlock = some k → w.heap.size ≤ k)
theorem OpS.next {w w1 w2 : World} {u : Dsk} {gb gs t l i g2 c2 K q : Nat} {b : List Int} {v : Value} (hE : Ext w w1) (hge : w.heap.size ≤ gs) (hbk : Blk w1 gb 156 #[.int .i64 t, .int .i64 l]) (hbs : Blk w1 gs 160 #[.pointer (some ⟨u.g, 0, none⟩), .int .i64 t, .int .i64 l, v, .bool false])
    (hv : ∀ k, v.ownBlock = some k → w.heap.size ≤ k) (hrow1 : w1.ownsRow 0 5 1 v q (DK.pgv (b.take (32 * i)))) (hq : (b.take (32 * i)).length = q) (hK : ((b.drop (32 * i)).take 32).length = K)
    (hrow : w2.ownsRow 0 5 1 (.slice (some ⟨g2, 0, none⟩) (q + K) c2) (q + K) (DK.pgv (b.take (32 * i)) ++ DK.pgv ((b.drop (32 * i)).take 32))) (hc : Chg (fun k => v.ownBlock = some k) w1 w2) (hat : v.ownBlock = some g2 ∨ g2 = w1.heap.size) :
    w2.cell? ⟨gs, 3, none⟩ = some v ∧ w2.frozen? ⟨gs, 3, none⟩ = false ∧ Hid (OpS w u gb gs t l b (i + 1) (w2.setCell ⟨gs, 3, none⟩ (.slice (some ⟨g2, 0, none⟩) (q + K) c2))) := by
  have h1 : v.ownBlock ≠ some gs := own_ne hrow1 hbs (by decide)
  have h2 : v.ownBlock ≠ some gb := own_ne hrow1 hbk (by decide)
  have b2 := hbs.chg hc h1
  have e1 : (b.take (32 * (i + 1))).length = q + K := by
    rw [show 32 * (i + 1) = 32 * i + 32 by omega, List.take_add, List.length_append, hK, hq]
  have e2 : (Value.slice (some (⟨g2, 0, none⟩ : Addr)) (q + K) c2).ownBlock = some g2 := rfl
  have hg2 : g2 ≠ gs := fun h => own_ne hrow b2 (by decide) (by rw [e2, h])
  have hw : w.heap.size ≤ g2 := by
    rcases hat with h | h
    · exact hv _ h
    · have := hE.size; omega
  refine ⟨b2.cell 3, b2.frozen 3, ⟨⟨?_, (hbk.chg hc h2).far (by have := hbk.ne_ hbs (by decide); simpa using this) _⟩, _, b2.set_ 3 (.slice (some ⟨g2, 0, none⟩) (q + K) c2), ?_, fun k hk => by injection (show some g2 = some k from hk) with hk; omega⟩⟩
  · exact (((Chg.of_below hE).trans hc (fun k _ hk => hv k hk)).setCell (p := ⟨gs, 3, none⟩) (fun _ => hge) _).below (Nat.le_refl _) (fun _ _ h => h)
  · rw [pgv_next] at hrow
    rw [e1]
    exact own_far hrow (p := ⟨gs, 3, none⟩) (by rw [e2]; simpa using hg2) _
end Go.Proofs.YtenjblonepegfaaDoor
