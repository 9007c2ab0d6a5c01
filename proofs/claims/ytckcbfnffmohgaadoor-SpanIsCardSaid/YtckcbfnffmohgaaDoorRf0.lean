/-
  The references' rows of edges: Of, Place. Condition: the edges lie in memory as 'EdsAt' says.
-/
import Derived.Test.YtckcbfnffmohgaaDoorMem3
import Derived.Test.YtckcbfnffmohgaaDoorEb
namespace Go.Proofs.YtckcbfnffmohgaaDoor
open Go Go.RowKit Go.ChangeShapes Go.WideShapes
set_option linter.unusedVariables false

namespace RF
def place : List AK.Ed → AK.Ed → Option Nat
  | [], _ => none
  | y :: r, x => if y = x then some 0 else (place r x).map (· + 1)
def placeV : Option Nat → Int
  | none => -1
  | some i => (i : Int)
theorem place_some {x : AK.Ed} : ∀ {l : List AK.Ed} {i : Nat}, l[i]? = some x → (∀ j, j < i → l[j]? ≠ some x) → place l x = some i
  | [], i, h, _ => by simp at h
  | y :: r, 0, h, _ => by simp at h; simp [place, h]
  | y :: r, i + 1, h, hn => by
    have h0 := hn 0 (by omega)
    simp at h0 h
    rw [place, if_neg h0, place_some h (fun j hj => by have := hn (j + 1) (by omega); simpa using this)]; rfl
theorem place_none {x : AK.Ed} : ∀ {l : List AK.Ed}, (∀ j, j < l.length → l[j]? ≠ some x) → place l x = none
  | [], _ => rfl
  | y :: r, hn => by
    have h0 := hn 0 (by simp)
    simp at h0
    rw [place, if_neg h0, place_none (fun j hj => by have := hn (j + 1) (by simp; omega); simpa using this)]; rfl
theorem place_get {x : AK.Ed} : ∀ {l : List AK.Ed} {i : Nat}, place l x = some i → l[i]? = some x
  | [], i, h => by simp [place] at h
  | y :: r, i, h => by
    rw [place] at h
    split at h
    · injection h with h; subst h; rename_i e; simp [e]
    · cases hp : place r x with
      | none => rw [hp] at h; simp at h
      | some j => rw [hp] at h; simp at h; subst h; simpa using place_get hp
theorem place_mem {x : AK.Ed} : ∀ {l : List AK.Ed}, place l x = none ↔ x ∉ l
  | [] => by simp [place]
  | y :: r => by
    rw [place]
    split
    · rename_i e; simp [e]
    · rename_i e
      rw [Option.map_eq_none_iff, place_mem]
      simp [Ne.symm e]
end RF

def EdsAt (w : World) (A : Option Addr) (l : List AK.Ed) : Prop := l = [] ∨ ∃ b off, A = some ⟨b, off, none⟩ ∧ b < w.heap.size ∧ ∀ (i : Nat) (x : AK.Ed), l[i]? = some x → w.cell? ⟨b, off + i * 2, none⟩ = some (.int .i64 x.1) ∧ w.cell? ⟨b, off + i * 2 + 1, none⟩ = some (.int .i64 x.2)
theorem EdsAt.chg {S : Nat → Prop} {w w' : World} {A : Option Addr} {l : List AK.Ed} (h : EdsAt w A l) (hc : Chg S w w') (hn : l ≠ [] → ∀ x, A = some x → ¬ S x.block) : EdsAt w' A l := by
  by_cases h0 : l = []
  · exact .inl h0
  rcases h with h | ⟨b, off, rfl, hb, he⟩
  · exact absurd h h0
  · have hs : ¬ S b := hn h0 _ rfl
    exact .inr ⟨b, off, rfl, Nat.lt_of_lt_of_le hb hc.size, fun i e h => ⟨(hc.cell (p := ⟨b, _, none⟩) hb hs).trans (he i e h).1, (hc.cell (p := ⟨b, _, none⟩) hb hs).trans (he i e h).2⟩⟩
theorem EdsAt.ext {w w' : World} {A : Option Addr} {l : List AK.Ed} (h : EdsAt w A l) (hb : Below w.heap.size w w') : EdsAt w' A l := by
  rcases h with h | ⟨b, off, rfl, hl, he⟩
  · exact .inl h
  · exact EdsAt.chg (.inr ⟨b, off, rfl, hl, he⟩) (Chg.of_below hb) (by rintro _ x hx; injection hx with hx; subst hx; simp only; omega)
def edC (x : AK.Ed) : List Value := [.int .i64 x.1, .int .i64 x.2]
theorem edC_len (x : AK.Ed) : (edC x).length = 2 := rfl
theorem infoEdge : (Tryd.prog.info? 34).map (fun i => (i.zero, i.size, i.bytes)) = some (some (.agg #[.int .i64 0, .int .i64 0]), 2, 16) := by kernel_rfl
/-- A row of edges of one's own. -/
def DRow (w : World) (v : Value) (l : List AK.Ed) : Prop := w.ownsRow 0 34 2 v l.length (rowsOf edC l)
theorem edC_one {l : List AK.Ed} : ∀ u ∈ rowsOf edC l, u.oneCell' = true := by
  intro u hu
  unfold rowsOf at hu
  rw [List.mem_flatMap] at hu
  obtain ⟨e, _, h⟩ := hu
  simp [edC] at h
  rcases h with rfl | rfl <;> rfl
theorem DRow.eds {w : World} {A : Option Addr} {n c : Nat} {l : List AK.Ed} (h : DRow w (.slice A n c) l) (hn : l.length = n) : EdsAt w A l ∧ n ≤ c := by
  unfold DRow at h
  rw [hn] at h
  rcases Nat.eq_zero_or_pos n with h0 | h0
  · exact ⟨.inl (List.eq_nil_of_length_eq_zero (by omega)), by omega⟩
  obtain ⟨g, cap, hv, hc, _⟩ := own_form h h0
  simp only [Value.slice.injEq, true_and] at hv
  obtain ⟨rfl, rfl⟩ := hv
  refine ⟨.inr ⟨g, 0, rfl, own_lt h (by simp [Value.ownBlock]), fun i x hx => ?_⟩, hc⟩
  have hi : i < n := by have := (List.getElem?_eq_some_iff.1 hx).1; omega
  have key : ∀ j v, (edC x)[j]? = some v → w.cell? ⟨g, i * 2 + j, none⟩ = some v := fun j v hv => by
    have hj : j < 2 := (List.getElem?_eq_some_iff.1 hv).1
    rw [World.ownsRow.cellAt h (i * 2 + j) (by omega)]
    exact rowsOf_get (f := edC) (S := 2) (fun a _ => edC_len a) hx hv
  refine ⟨?_, ?_⟩
  · have := key 0 _ rfl; simpa using this
  · have := key 1 _ rfl; simpa [Nat.add_assoc] using this
/-- The cells of edges from a place on. -/
theorem EdsAt.cells {w : World} {b off : Nat} {l : List AK.Ed} (he : ∀ (i : Nat) (x : AK.Ed), l[i]? = some x → w.cell? ⟨b, off + i * 2, none⟩ = some (.int .i64 x.1) ∧ w.cell? ⟨b, off + i * 2 + 1, none⟩ = some (.int .i64 x.2)) (k d : Nat) : ∀ j u, (rowsOf edC ((l.drop k).take d))[j]? = some u → w.cell? ((⟨b, off + k * 2, none⟩ : Addr).add j) = some u := by
  intro j u hj
  rw [Addr.add_mid]
  have hlt := (List.getElem?_eq_some_iff.1 hj).1
  rw [rowsOf_len (f := edC) (S := 2) (fun a _ => edC_len a)] at hlt
  have hi : j / 2 < ((l.drop k).take d).length := by omega
  obtain ⟨e, hee⟩ : ∃ e, ((l.drop k).take d)[j / 2]? = some e := ⟨_, List.getElem?_eq_getElem hi⟩
  have hee' : l[k + j / 2]? = some e := by
    rw [List.getElem?_take] at hee
    split at hee
    · rwa [List.getElem?_drop] at hee
    · cases hee
  obtain ⟨h0, h1⟩ := he _ _ hee'
  have hm : j = j / 2 * 2 + j % 2 := by omega
  have key : ∀ v, (edC e)[j % 2]? = some v → u = v := fun v hv => by
    have := rowsOf_get (f := edC) (S := 2) (fun a _ => edC_len a) hee hv
    rw [← hm, hj] at this
    exact Option.some.inj this
  have hr : j % 2 = 0 ∨ j % 2 = 1 := by omega
  rcases hr with hr | hr
  · rw [key (.int .i64 e.1) (by rw [hr]; rfl), ← h0]; congr 2; omega
  · rw [key (.int .i64 e.2) (by rw [hr]; rfl), ← h1]; congr 2; omega

end Go.Proofs.YtckcbfnffmohgaaDoor
