/-
  An edge as a value. No conditions.
  Maps that lie in memory, of any values: what they hold as a function; made, asked, written, struck, counted, ranged over. No conditions.
-/
import Derived.Test.YtckcbfnffmohgaaGreatRows
import Derived.Test.YtckcbfnffmohgaaGreatTt1
import Derived.Test.YtckcbfnffmohgaaGreatTt3
import Derived.WalkKit
import Derived.ProofKit
import Derived.WalkSpells
import Derived.Lib.Hide
import Derived.Outline
import Derived.RegionTactic
import Derived.BigRegion
import Derived.Deep.QuietTactic
import Derived.BigQuiet
import Derived.Deep.DeepFit
import Derived.Deep.DeepCutAuto
import Derived.Deep.CutBlock
import Derived.StillTailTactics
import Derived.Deep.RegionHeld3
import Derived.Laws.AppendOwnNone
import Derived.Deep.DrawnRows
import Derived.Deep.LoopGhost
import Derived.Deep.Slices
import Derived.Below
import Derived.Maps.OwnSet
import Derived.Maps.RangeWalk
import Derived.Maps.Views
import Derived.DeepKeys4
namespace Go.Proofs.YtckcbfnffmohgaaGreat
open Go Go.RowKit
set_option linter.unusedVariables false

abbrev edV (x : AK.Ed) : Value := .agg #[.int .i64 x.1, .int .i64 x.2]
theorem ed_ret {x y a b : Int} (h1 : x = min a b) (h2 : y = max a b) : Ending.returned (.agg #[.int .i64 x, .int .i64 y]) = .returned (edV (AK.ek a b)) := by subst h1; subst h2; rfl
end Go.Proofs.YtckcbfnffmohgaaGreat
namespace Go.Proofs.YtckcbfnffmohgaaGreat
open Go Go.RowKit
set_option linter.unusedVariables false

/-- How keys of a type are told. -/
structure KK (α : Type) where
  t : TypeId
  ok : α → Prop
  lit : α → Lit
  kv : α → Value
  keyed : Maps.Keyed Tryz.prog t
  key : ∀ x, ok x → keyOf Tryz.prog t (kv x) = some (lit x)
  inv : ∀ v l, keyOf Tryz.prog t v = some l → ∃ x, ok x ∧ v = kv x
  inj : ∀ x y, kv x = kv y → x = y
section
variable {α : Type} (k : KK α)
theorem KK.isKey {x : α} (h : k.ok x) : WideAt.IsKeyLit (k.lit x) := k.keyed.key (k.key x h)
theorem KK.ne {x y : α} (hx : k.ok x) (hy : k.ok y) (h : x ≠ y) : k.lit x ≠ k.lit y := fun e => by
  have h1 := k.key x hx
  rw [e] at h1
  exact h (k.inj _ _ (k.keyed.inj h1 (k.key y hy)))
end

/-- Any value reads as itself. -/
def RV (v : Value) : Option (DataW Value × List MemPlace) := some (.held v, [])
/-- Block b is a map: what it holds is m; of s keys. -/
def VM {α : Type} (k : KK α) (w : World) (b N s : Nat) (m : α → Option Value) : Prop :=
  ∃ D : DataW Value, w.ownsMap Tryz.prog k.t RV b N D ∧ Maps.size D = s ∧ ∀ x, k.ok x → Maps.has D (k.lit x) = (m x).isSome ∧ ∀ zd, D.atKey (k.lit x) zd = match m x with | some v => .held v | none => zd
def updV {α : Type} [DecidableEq α] (m : α → Option Value) (x : α) (v : Option Value) : α → Option Value := fun y => if y = x then v else m y
section
variable {α : Type} {k : KK α} {w w' : World} {b N s : Nat} {m : α → Option Value}
theorem VM.made (k : KK α) (w : World) : VM k (w.alloc (.map #[] 0)) w.heap.size 0 0 (fun _ => none) :=
  ⟨.map [], World.ownsMap_made _ _ _ _, rfl, fun x _ => ⟨rfl, fun _ => rfl⟩⟩
theorem VM.lt (h : VM k w b N s m) : b < w.heap.size := by obtain ⟨D, h, _⟩ := h; exact h.lt
theorem VM.isMap (h : VM k w b N s m) : ∃ es clock, w.heap[b]? = some (.map es clock) := by
  obtain ⟨D, ⟨es, clock, hb, _⟩, _⟩ := h; exact ⟨es, clock, hb⟩
theorem VM.chg {S : Nat → Prop} (h : VM k w b N s m) (hc : Chg S w w') (hn : ¬ S b) : VM k w' b N s m := by
  obtain ⟨D, h1, r⟩ := h
  have hlt := h1.lt
  obtain ⟨es, clock, hb, r1⟩ := h1
  exact ⟨D, ⟨es, clock, (hc.block b hlt hn).trans hb, r1⟩, r⟩
theorem VM.ext (h : VM k w b N s m) (hb : Below w.heap.size w w') : VM k w' b N s m := h.chg (Chg.of_below hb) (by have := h.lt; omega)
theorem VM.mono (h : VM k w b N s m) {N' : Nat} (hn : N ≤ N') : VM k w b N' s m := by
  obtain ⟨D, h1, r⟩ := h
  exact ⟨D, h1.mono hn, r⟩
theorem VM.own_ne {base : Nat} {e : TypeId} {size : Nat} {v : Value} {n : Nat} {xs : List Value} (hm : VM k w b N s m) (h : w.ownsRow base e size v n xs) : v.ownBlock ≠ some b := by
  rcases h.2 with ⟨rfl, _⟩ | ⟨g, cap, cur, rfl, _, hh, _⟩
  · simp [Value.ownBlock]
  · intro he
    have : g = b := by simpa [Value.ownBlock] using he
    subst this
    obtain ⟨es, clock, hb⟩ := hm.isMap
    rw [hh] at hb
    cases hb
theorem VM.blk_ne {g : Nat} {t : TypeId} {cs : Array Value} (hm : VM k w b N s m) (h : Blk w g t cs) : g ≠ b := by
  rintro rfl
  obtain ⟨es, clock, hb⟩ := hm.isMap
  unfold Blk at h
  rw [h] at hb; cases hb
theorem VM.look {T e : TypeId} (h : VM k w b N s m) (ht : Tryz.prog.underlying T = some (.map k.t e)) {z : Value} (hz : (zeroValue e).run Tryz.prog w = .ok z w) (x : α) (hx : k.ok x) :
    (Instr.lookup T (.map (some b)) (k.kv x) false).run Tryz.prog w = .ok ((m x).getD z) w := by
  obtain ⟨D, h1, h2, h3⟩ := h
  obtain ⟨v, ps, hr, hv⟩ := h1.lookup k.keyed ht hz (zd := .held z) (zp := []) rfl (k.key x hx)
  rw [(h3 x hx).2] at hv
  rw [hr]
  cases hm : m x with
  | none => rw [hm] at hv; simp [RV] at hv; rw [hv.1]; rfl
  | some u => rw [hm] at hv; simp [RV] at hv; rw [hv.1]; rfl
theorem VM.look_ok {T e : TypeId} (h : VM k w b N s m) (ht : Tryz.prog.underlying T = some (.map k.t e)) {z : Value} (hz : (zeroValue e).run Tryz.prog w = .ok z w) (x : α) (hx : k.ok x) :
    (Instr.lookup T (.map (some b)) (k.kv x) true).run Tryz.prog w = .ok (.tuple #[(m x).getD z, .bool (m x).isSome]) w := by
  obtain ⟨D, h1, h2, h3⟩ := h
  obtain ⟨v, ps, hr, hv⟩ := h1.look_ok k.keyed ht hz (zd := .held z) (zp := []) rfl (k.key x hx)
  rw [(h3 x hx).2] at hv
  rw [hr, (h3 x hx).1]
  cases hm : m x with
  | none => rw [hm] at hv; simp [RV] at hv; rw [hv.1]; rfl
  | some u => rw [hm] at hv; simp [RV] at hv; rw [hv.1]; rfl
variable [DecidableEq α]
theorem VM.put {T e : TypeId} (h : VM k w b N s m) (ht : Tryz.prog.underlying T = some (.map k.t e)) (hN : N < 1000000) (x : α) (hx : k.ok x) (v : Value) :
    ∃ w', (Instr.mapUpdate T (.map (some b)) (k.kv x) v).run Tryz.prog w = .ok () w' ∧ VM k w' b (N + 1) (if (m x).isSome then s else s + 1) (updV m x (some v)) ∧ Chg (fun j => j = b) w w' ∧ w'.heap.size = w.heap.size := by
  obtain ⟨D, h1, h2, h3⟩ := h
  obtain ⟨w', hr, ho, hg⟩ := h1.store k.keyed ht (by unfold maxLen; omega) (k.key x hx) (d := .held v) (ps := []) rfl
  have hT := h1.tidy k.keyed
  have hM := h1.isMap
  refine ⟨w', hr, ⟨_, ho, ?_, fun y hy => ?_⟩, (Chg.of_grown hg.grown).mono (fun k _ hk => by simpa using hk), ?_⟩
  · rw [Maps.size_put hT, (h3 x hx).1, h2]
  · by_cases e : y = x
    · subst e
      rw [Maps.has_put_same hM (k.isKey hy)]
      exact ⟨by simp [updV], fun zd => by rw [Maps.atKey_put_same hM (k.isKey hy)]; simp [updV]⟩
    · rw [Maps.has_put_other (k.ne hy hx e)]
      exact ⟨by rw [(h3 y hy).1]; simp [updV, e], fun zd => by rw [Maps.atKey_put_other (k.ne hy hx e), (h3 y hy).2]; simp [updV, e]⟩
  · obtain ⟨es, clock, es', clock', hb, rfl⟩ := hg
    simp [Go.ChangeMaps.setBlock]
theorem VM.del {T e : TypeId} (h : VM k w b N s m) (ht : Tryz.prog.underlying T = some (.map k.t e)) (x : α) (hx : k.ok x) :
    ∃ w', (∀ ty, (Builtin.delete_ #[T, k.t] ty #[.map (some b), k.kv x]).run Tryz.prog w = .ok (.tuple #[]) w') ∧ (∃ s', s' + (if (m x).isSome then 1 else 0) = s ∧ VM k w' b N s' (updV m x none)) ∧ Chg (fun j => j = b) w w' ∧ w'.heap.size = w.heap.size := by
  obtain ⟨D, h1, h2, h3⟩ := h
  have hT := h1.tidy k.keyed
  obtain ⟨w', hr, ho, hg⟩ := h1.drop k.keyed ht (k.key x hx) 0
  have hsz := Maps.size_del (k := k.lit x) hT
  rw [(h3 x hx).1, h2] at hsz
  refine ⟨w', fun ty => hr, ⟨_, hsz, _, ho, rfl, fun y hy => ?_⟩, (Chg.of_grown hg.grown).mono (fun k _ hk => by simpa using hk), ?_⟩
  · by_cases e : y = x
    · subst e
      rw [Maps.has_del_same]
      exact ⟨by simp [updV], fun zd => by rw [Maps.atKey_del_same]; simp [updV]⟩
    · rw [Maps.has_del_other (k.ne hy hx e)]
      exact ⟨by rw [(h3 y hy).1]; simp [updV, e], fun zd => by rw [Maps.atKey_del_other (k.ne hy hx e), (h3 y hy).2]; simp [updV, e]⟩
  · obtain ⟨es, clock, es', clock', hb, rfl⟩ := hg
    simp [Go.ChangeMaps.setBlock]
end

/-- A map that is ranged over: d is what has come; nothing of it twice. -/
structure VR {α : Type} (k : KK α) (w : World) (b r N s : Nat) (m : α → Option Value) (d : List α) : Prop where
  rg : ∃ (D : DataW Value) (left : Lit → Bool) (cnt : Nat), w.ranges Tryz.prog k.t RV b r N D left cnt ∧ Maps.size D = s ∧ cnt ≤ s ∧ (∀ x, k.ok x → (Maps.has D (k.lit x) = (m x).isSome ∧ ∀ zd, D.atKey (k.lit x) zd = match m x with | some v => .held v | none => zd) ∧ (x ∈ d ↔ (m x).isSome = true ∧ left (k.lit x) = false))
  nd : d.Nodup
  okd : ∀ x ∈ d, k.ok x
section
variable {α : Type} {k : KK α} {w w' : World} {b r N s : Nat} {m : α → Option Value} {d : List α}
theorem VR.vm (h : VR k w b r N s m d) : VM k w b N s m := by
  obtain ⟨D, left, cnt, h1, h2, _, h3⟩ := h.rg
  exact ⟨D, h1.owns, h2, fun x hx => (h3 x hx).1⟩
theorem VR.kept {S : Nat → Prop} (h : VR k w b r N s m d) (hc : Chg S w w') (hb : ¬ S b) (hr : ¬ S r) : VR k w' b r N s m d := by
  obtain ⟨D, left, cnt, h1, h2⟩ := h.rg
  have hbl := h1.owns.lt
  have hrl := h1.lt
  refine ⟨⟨D, left, cnt, ?_, h2⟩, h.nd, h.okd⟩
  obtain ⟨es, clock, since, seen, c0, q1, q2, q3, q4, q5, q6⟩ := h1
  exact ⟨es, clock, since, seen, c0, (hc.block b hbl hb).trans q1, q2, q3, q4, (hc.block r hrl hr).trans q5, q6⟩
theorem VR.lt (h : VR k w b r N s m d) : r < w.heap.size := by obtain ⟨D, left, cnt, h1, _⟩ := h.rg; exact h1.lt
theorem VM.range {T e : TypeId} (h : VM k w b N s m) (ht : Tryz.prog.underlying T = some (.map k.t e)) :
    ∃ w', (Instr.range T (.map (some b))).run Tryz.prog w = .ok (.pointer (some ⟨w.heap.size, 0, none⟩)) w' ∧ VR k w' b w.heap.size N s m [] ∧ Below w.heap.size w w' ∧ w'.heap.size = w.heap.size + 1 := by
  obtain ⟨D, h1, h2, h3⟩ := h
  obtain ⟨w', hr, hrg, hg, hsz⟩ := h1.range k.keyed ht
  refine ⟨w', hr, ⟨⟨D, _, _, hrg, h2, by omega, fun x hx => ⟨h3 x hx, ?_⟩⟩, List.nodup_nil, by simp⟩, ⟨hg.os, hg.tape, hg.output, hg.size, fun i hi => hg.block i hi (by simp)⟩, hsz⟩
  rw [(h3 x hx).1]
  cases (m x).isSome <;> simp
theorem VR.next (h : VR k w b r N s m d) (ty : TypeId) :
    ((Instr.next (.pointer (some ⟨r, 0, none⟩)) false ty).run Tryz.prog w = .ok (.tuple #[.bool false]) w ∧ ∀ x, k.ok x → (x ∈ d ↔ (m x).isSome = true)) ∨
    ∃ x v w', k.ok x ∧ x ∉ d ∧ m x = some v ∧ (Instr.next (.pointer (some ⟨r, 0, none⟩)) false ty).run Tryz.prog w = .ok (.tuple #[.bool true, k.kv x, v]) w' ∧ VR k w' b r N s m (d ++ [x]) ∧ w'.rangeLeft b r < w.rangeLeft b r ∧ Chg (fun j => j = r) w w' ∧ w'.heap.size = w.heap.size ∧
      (Instr.entry (.pointer (some ⟨r, 0, none⟩))).run Tryz.prog w' = .ok (.tuple #[k.kv x, v]) w' := by
  obtain ⟨D, left, cnt, h1, h2, h4, h3⟩ := h.rg
  rcases h1.next k.keyed ty with ⟨h0, hl, hrun⟩ | ⟨key, v, kl, y, w', cnt', hkey, hlk, hv, hat, hrun, hrg, hlt, hgr, hsz, hen⟩
  · exact .inl ⟨hrun, fun x hx => by rw [(h3 x hx).2, hl]; simp⟩
  · obtain ⟨x, hx, rfl⟩ := k.inv key kl hkey
    have e := k.key x hx
    rw [hkey] at e
    obtain rfl := Option.some.inj e
    have hmx : m x = some v := by
      have q := (h3 x hx).1.2 (.held (.bool false))
      rw [hat] at q
      have q2 := (h3 x hx).1.2 (.held (.bool true))
      rw [hat] at q2
      simp [RV] at hv
      subst hv
      cases hm : m x with
      | none => rw [hm] at q q2; simp at q q2; rw [q] at q2; simp at q2
      | some u => rw [hm] at q; simp at q; rw [q]
    have hnd : x ∉ d := fun hd => by have := ((h3 x hx).2.1 hd).2; rw [hlk] at this; cases this
    refine .inr ⟨x, v, w', hx, hnd, hmx, hrun, ⟨⟨D, _, cnt', hrg, h2, by omega, fun y hy => ⟨(h3 y hy).1, ?_⟩⟩, ?_, ?_⟩, by rw [hrg.left_eq, h1.left_eq]; exact hlt, (Chg.of_grown hgr).mono (fun j _ hj => by simpa using hj), hsz, hen⟩
    · by_cases e : y = x
      · subst e
        simp [hmx, WideAt.sameKey_self (k.isKey hy)]
      · have hs : (k.lit y).sameKey (k.lit x) = false := by
          cases hs : (k.lit y).sameKey (k.lit x) with
          | false => rfl
          | true => exact absurd (WideAt.sameKey_eq hs) (k.ne hy hx e)
        rw [List.mem_append, (h3 y hy).2]
        simp [e, hs]
    · rw [List.nodup_append]
      exact ⟨h.nd, by simp, fun a ha b hb e => by have hb' : b = x := by simpa using hb
                                                  exact hnd (hb' ▸ e ▸ ha)⟩
    · intro y hy
      rcases List.mem_append.1 hy with hy | hy
      · exact h.okd y hy
      · have : y = x := by simpa using hy
        subst this; exact hx
end

theorem laidOutK : laidOutB Tryz.prog = true := by kernel_rfl
theorem keyTypeEK : Tryz.prog.keyType 32 = true := by kernel_rfl
theorem cellsEK : Tryz.prog.cellsOf 32 = 2 := by kernel_rfl
theorem cellsIK : Tryz.prog.cellsOf 3 = 1 := by kernel_rfl
theorem rowEK : (32 : TypeId) < Tryz.prog.types.size := of_decide_eq_true (by kernel_rfl)
theorem keyTypeEK2 : Tryz.prog.keyTypeAt 2 32 = true := by kernel_rfl
theorem keyedEK : Maps.Keyed Tryz.prog 32 := Maps.Keyed.of_law (deep_law_laid laidOutK (m := 2) (by omega) rowEK keyTypeEK2 (by rw [Tryz.underlying32]))
theorem someTypesK : 0 < Tryz.prog.types.size := of_decide_eq_true (by kernel_rfl)
def okE (x : AK.Ed) : Prop := (Lit.int .i64 x.1).wf = true ∧ (Lit.int .i64 x.2).wf = true
theorem okE_of {x : AK.Ed} (h1 : -1000 ≤ x.1 ∧ x.1 ≤ 1000000) (h2 : -1000 ≤ x.2 ∧ x.2 ≤ 1000000) : okE x := ⟨WalkArith.wf_i64 (by omega), WalkArith.wf_i64 (by omega)⟩
theorem keyOfE (x : AK.Ed) (h : okE x) : ∃ l, keyOf Tryz.prog 32 (edV x) = some l := by
  obtain ⟨n, hn⟩ : ∃ n, Tryz.prog.types.size = n + 1 := ⟨Tryz.prog.types.size - 1, by have := someTypesK; omega⟩
  unfold keyOf
  rw [Tryz.underlying32]
  have hf : (Value.agg #[.int .i64 x.1, .int .i64 x.2]).formed Tryz.prog 32 = true := by simp [Value.formed, Tryz.underlying32, cellsEK]
  simp only [keyTypeEK, hf, Bool.and_self, if_true]
  refine ⟨.string (keyBytes [.int .i64 x.1, .int .i64 x.2]), ?_⟩
  rw [hn]
  simp [Program.keyLits, Tryz.underlying32, cellsEK, cellsIK, Value.cells, h.1, h.2]
theorem pairL {α : Type} {l : List α} (h : l.length = 2) : ∃ a b, l = [a, b] := by
  match l, h with
  | [a, b], _ => exact ⟨a, b, rfl⟩
theorem keyInvE (v : Value) (l : Lit) (h : keyOf Tryz.prog 32 v = some l) : ∃ x, okE x ∧ v = edV x := by
  obtain ⟨n, hn⟩ : ∃ n, Tryz.prog.types.size = n + 1 := ⟨Tryz.prog.types.size - 1, by have := someTypesK; omega⟩
  have ek : keyOf Tryz.prog 32 v = if Tryz.prog.keyType 32 && v.formed Tryz.prog 32 then (Tryz.prog.keyLits (n + 1 + 1) 32 v.cells.toList).map fun ls => .string (keyBytes ls) else none := by
    unfold keyOf
    rw [Tryz.underlying32, hn]
  rw [ek] at h
  clear ek
  by_cases hf : v.formed Tryz.prog 32 = true
  · rw [keyTypeEK, hf] at h
    have hf2 := hf
    cases v with
    | agg cs =>
      have hf : cs.size = 2 := by
        simp [Value.formed, Tryz.underlying32, cellsEK] at hf2
        exact hf2
      obtain ⟨cs⟩ := cs
      have hl : cs.length = 2 := hf
      clear hf hf2 hn
      obtain ⟨a, b, rfl⟩ := pairL hl
      have ha : ∃ x, a = .int .i64 x ∧ (Lit.int .i64 x).wf = true := by
        cases a <;> simp [Program.keyLits, Tryz.underlying32, cellsEK, cellsIK, Value.cells] at h
        case int q z =>
          by_cases hq : q = IntKind.i64 ∧ (Lit.int IntKind.i64 z).wf = true
          · obtain ⟨rfl, hw⟩ := hq; exact ⟨z, rfl, hw⟩
          · rw [if_neg (by intro w; obtain ⟨rfl, w2⟩ := w; exact hq ⟨rfl, w2⟩)] at h; simp at h
      have hb : ∃ x, b = .int .i64 x ∧ (Lit.int .i64 x).wf = true := by
        obtain ⟨x, rfl, hx⟩ := ha
        cases b <;> simp [Program.keyLits, Tryz.underlying32, cellsEK, cellsIK, Value.cells, hx] at h
        case int q z =>
          by_cases hq : q = IntKind.i64 ∧ (Lit.int IntKind.i64 z).wf = true
          · obtain ⟨rfl, hw⟩ := hq; exact ⟨z, rfl, hw⟩
          · rw [if_neg (by intro w; obtain ⟨rfl, w2⟩ := w; exact hq ⟨rfl, w2⟩)] at h; simp at h
      obtain ⟨x, rfl, hx⟩ := ha
      obtain ⟨y, rfl, hy⟩ := hb
      exact ⟨(x, y), ⟨hx, hy⟩, rfl⟩
    | _ => simp [Value.formed, Tryz.underlying32] at hf2
  · rw [Bool.not_eq_true] at hf
    rw [hf] at h
    simp at h
noncomputable def litE (x : AK.Ed) : Lit := (keyOf Tryz.prog 32 (edV x)).getD (.bool false)
theorem litE_eq {x : AK.Ed} (h : okE x) : keyOf Tryz.prog 32 (edV x) = some (litE x) := by
  obtain ⟨l, hl⟩ := keyOfE x h
  unfold litE; rw [hl]; rfl
noncomputable def kE : KK AK.Ed := ⟨32, okE, litE, edV, keyedEK, fun x h => litE_eq h, keyInvE, fun x y h => by simp at h; exact Prod.ext h.1 h.2⟩
def kI : KK Int := ⟨3, fun x => (Lit.int .i64 x).wf = true, fun x => .int .i64 x, fun x => .int .i64 x, Maps.int_keyed Tryz.underlying3, fun x h => Maps.keyOf_int_mk Tryz.underlying3 h, fun v l h => by obtain ⟨x, rfl, rfl, hw⟩ := Maps.keyOf_int_inv Tryz.underlying3 h; exact ⟨x, hw, rfl⟩, fun x y h => by simpa using h⟩
end Go.Proofs.YtckcbfnffmohgaaGreat
