/-
  SeqPlays: what its script's state says, and its switch's code. No conditions.
-/
import Derived.Test.YtenjblonepegfaaDoorSq8
import Derived.Test.YtenjblonepegfaaDoorTd2
namespace Go.Proofs.YtenjblonepegfaaDoor
open Go Go.RowKit SQ
set_option linter.unusedVariables false

theorem new_own {v' : Value} {N : Nat} (hg : ∀ g, v'.ownBlock = some g → (Value.slice none 0 0).ownBlock = some g ∨ g = N) : ∀ j, v'.ownBlock = some j → N ≤ j := fun j hj => by
  rcases hg j hj with h | h
  · simp [Value.ownBlock] at h
  · omega
theorem below_nil {w w' : World} (hc : Chg (fun k => (Value.slice none 0 0).ownBlock = some k) w w') : Below w.heap.size w w' := hc.below (Nat.le_refl _) (fun j _ hj => by simp [Value.ownBlock] at hj)
def cFst : Code → Code | .seq a _ => a | c => c
def cSnd : Code → Code | .seq _ b => b | c => c
def cArm : Code → Code | .block _ c => c | .loop c => c | c => c
def cBody (f : Func) : Code := match f.body with | some c => c | none => .skip
theorem infoPtrS : (Tryd.prog.info? 57).map (fun i => (i.zero, i.size, i.bytes)) = some (some (.pointer none), 1, 8) := by kernel_rfl
theorem infoInts : (Tryd.prog.info? 34).map (fun i => (i.zero, i.size, i.bytes)) = some (some (.slice none 0 0), 1, 24) := by kernel_rfl
theorem PSt.zero (w : World) : PSt w w (.slice none 0 0) (.slice none 0 0) [] :=
  ⟨Below.refl _ _, World.ownsRow_nil _ _ _ _, World.ownsRow_nil _ _ _ _, fun _ h => by simp at h, fun _ h => by simp [Value.ownBlock] at h, fun _ h => by simp [Value.ownBlock] at h⟩
theorem QOk.nil_ (B : Nat) (w : World) : QOk B w ⟨none, .nil, none, 0, 0⟩ :=
  ⟨rfl, trivial, by simp [T.size], ⟨.inl rfl, fun h => absurd rfl h⟩, rfl, Nat.le_refl _, Nat.zero_le _, fun _ => ⟨rfl, rfl⟩⟩
theorem PSt.cellR {W w : World} {gr m c : Nat} {wv : Value} {L : List QR} (h : PSt W w (.slice (some ⟨gr, 0, none⟩) m c) wv L) (hm : L.length = m) {i : Nat} {q : QR} (hq : L[i]? = some q) : w.cell? ⟨gr, i, none⟩ = some (.pointer q.p) := by
  have hi : i < m := by rw [← hm]; exact (List.getElem?_eq_some_iff.1 hq).1
  have hr := h.rows
  rw [hm] at hr
  rw [World.ownsRow.cellAt hr i (by omega)]; simp [ptrs, hq]
theorem PSt.cellW {W w : World} {gw m c : Nat} {rv : Value} {L : List QR} (h : PSt W w rv (.slice (some ⟨gw, 0, none⟩) m c) L) (hm : L.length = m) {i : Nat} {q : QR} (hq : L[i]? = some q) : w.cell? ⟨gw, i, none⟩ = some (.slice q.A q.n q.c) := by
  have hi : i < m := by rw [← hm]; exact (List.getElem?_eq_some_iff.1 hq).1
  have hr := h.want
  rw [hm] at hr
  rw [World.ownsRow.cellAt hr i (by omega)]; simp [lists, hq]
theorem IMem.of_arg {w wx : World} {A : Option Addr} {xs : List Int} (h : IntsAt w A xs) (hb : Below w.heap.size w wx) : IMem w.heap.size wx A xs := by
  refine ⟨h.ext hb, fun h0 x hx => .inl ?_⟩
  rcases h with h | ⟨b, off, he, hl, _⟩
  · exact absurd h h0
  · rw [he] at hx; injection hx with hx; subst hx; exact hl
theorem IMem.take {B : Nat} {w : World} {A : Option Addr} {xs : List Int} (h : IMem B w A xs) (k : Nat) : IMem B w A (xs.take k) := by
  refine ⟨?_, fun h0 => h.2 (fun e => h0 (by rw [e]; simp))⟩
  rcases h.1 with h0 | ⟨b, off, he, hl, hc⟩
  · left; rw [h0]; simp
  · exact .inr ⟨b, off, he, hl, fun i v hv => hc i v (by rw [List.getElem?_take] at hv; split at hv; exact hv; cases hv)⟩
theorem IMem.drop {B : Nat} {w : World} {x : Addr} {xs : List Int} (h : IMem B w (some x) xs) (k : Nat) : IMem B w (some (x.add k)) (xs.drop k) := by
  by_cases h00 : xs = []
  · subst h00; exact ⟨.inl (by simp), fun h0 => absurd (by simp) h0⟩
  rcases h.1 with h0 | ⟨b, off, he, hl, hc⟩
  · exact absurd h0 h00
  · injection he with he
    have h2 := h.2 h00 x rfl
    subst he
    rw [Addr.add_mid]
    refine ⟨.inr ⟨b, off + k, rfl, hl, fun i v hv => ?_⟩, fun _ y hy => ?_⟩
    · rw [List.getElem?_drop] at hv
      have := hc _ v hv
      rwa [← Nat.add_assoc] at this
    · injection hy with hy; subst hy; exact h2
theorem drw (w : World) (n : Nat) : Below w.heap.size w ((w.drewN n).drew) := (below_drewN' (Below.refl _ _) n).drew
theorem map_one {l : List Int} : ∀ u ∈ l.map (Value.int .i64), u.oneCell' = true := by
  intro u hu; rw [List.mem_map] at hu; obtain ⟨x, _, rfl⟩ := hu; rfl
theorem ints_src {w : World} {A : Option Addr} {l : List Int} (h : IntsAt w A l) : ∀ ad, A = some ad → ∀ j u, (l.map (Value.int .i64))[j]? = some u → w.cell? (ad.add j) = some u := by
  rintro ad rfl j u hj
  rw [List.getElem?_map] at hj
  cases hv : l[j]? with
  | none => rw [hv] at hj; cases hj
  | some v =>
    rw [hv] at hj; simp at hj; subst hj
    rcases h with h | ⟨b, off, he, _, hc⟩
    · rw [h] at hv; simp at hv
    · injection he with he; subst he; rw [Addr.add_mid]; exact hc j v hv
/-- What the loop bears. -/
def SqR (W : World) (k m : Nat) (v3 v4 : Value) (wr : World) : Prop := ∃ L : List QR, L.length = m ∧ PSt W wr v3 v4 L ∧ 1 ≤ m ∧ m ≤ 1 + 2 * k

noncomputable def roundCode : Code := cArm (cFst (cSnd (cArm (cArm (cSnd (cFst (cSnd (cSnd (cSnd (cSnd (cSnd (cBody Tryd.f4)))))))))))) 
noncomputable def tailCode : Code := cSnd (cSnd (cSnd (cSnd roundCode)))
noncomputable def swCode : Code := cSnd (cFst tailCode)
noncomputable def inCode : Code := cSnd (cSnd tailCode)
structure SwAt (W w1 : World) (k m gr c1 gw c2 gs da db : Nat) (t x y : Int) (SA : Option Addr) (sm sc : Nat) (sl : List Int) (L : List QR) (pa Aa pb Ab : Option Addr) (ta tb : T) (ca cb : Nat) : Prop where
  P : PSt W w1 (.slice (some ⟨gr, 0, none⟩) m c1) (.slice (some ⟨gw, 0, none⟩) m c2) L
  lm : L.length = m
  D : Blk w1 gs 55 #[.int .i64 t, .int .i64 x, .int .i64 y, .slice SA sm sc]
  la : L[da]? = some ⟨pa, ta, Aa, ta.size, ca⟩
  lb : L[db]? = some ⟨pb, tb, Ab, tb.size, cb⟩
  door : Td.Door W
  si : IntsAt W SA sl
  sl : sl.length = sm
  no : SA = none → sm = 0 ∧ sc = 0
  smc : sm ≤ sc
  scm : sc ≤ maxLen
  m81 : m ≤ 81
  m1 : 1 ≤ m
  mks : m ≤ 1 + 2 * k
  k40 : k < 40
def SwRel (W : World) (k : Nat) (s3 s4 : Value) (w' : World) : Prop := ∃ (m' : Nat) (A1' : Option Addr) (c1' : Nat) (A2' : Option Addr) (c2' : Nat), m' ≤ 81 ∧ 1 ≤ m' ∧ s3 = .slice A1' m' c1' ∧ s4 = .slice A2' m' c2' ∧ SqR W (k + 1) m' (.slice A1' m' c1') (.slice A2' m' c2') w'
end Go.Proofs.YtenjblonepegfaaDoor
