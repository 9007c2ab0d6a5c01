/-
  The references' disk: Crash. Condition: the disk lies as 'RAt' says, the row 'keep' as 'IntsAt', not in the disk's blocks.
-/
import Derived.Test.YtenjblonepegfaaDoorRd3
import Derived.Test.YtenjblonepegfaaDoorDk7
namespace Go.Proofs.YtenjblonepegfaaDoor
open Go Go.RowKit
set_option linter.unusedVariables false

theorem RAt.setKept {w : World} {r : RD} {n : Nat} {d : DK.D} (h : RAt w r n d) {i : Nat} (hi : i < n) {x : PR} (hx : POk w x) (hp : x.p.length = 32) :
    RAt (w.setCell ⟨r.gk, i, none⟩ (pv x)) { r with K := r.K.set i x } n { d with kept := d.kept.set i x.p } := by
  have hc := chg_cell w r.gk i (pv x)
  have hpg : ∀ k, k = r.gk → ∀ cs, ¬ Blk w k 5 cs := fun k hk => by subst hk; exact h.nopage (.inr (.inl rfl))
  refine ⟨⟨by simp [h.ok.lk], h.ok.ln, fun p hpm => ?_, h.ok.np, h.ok.wp, h.ok.left⟩, h.pos, h.le, h.blk.far (fun e => h.ggk e.symm) _, ?_, own_chg h.rn hc (by intro k hk; simp [Value.ownBlock] at hk; subst hk; exact fun e => h.n1 e.symm), own_chg h.rw hc (fun k hk e => by subst e; exact h.gwk hk), h.n1, ?_, h.hn, h.hw, fun y hy => ?_, fun y hy => (h.pn y hy).chg hc hpg, fun y hy => (h.pw y hy).chg hc hpg⟩
  · rcases DK.mem_set hpm with hpm | rfl
    · exact h.ok.kp p hpm
    · exact hp
  · show World.ownsRow _ _ _ _ _ _ ((r.K.set i x).map pv)
    rw [List.map_set]; exact (World.ownsRow.stored h.rk i (pv x)).1
  · show pgs (r.K.set i x) = _
    rw [pgs_set, h.hk]
  · have hy' : y ∈ r.K.set i x := hy
    rcases DK.mem_set hy' with hy | rfl
    · exact (h.pk y hy).chg hc hpg
    · exact hx.chg hc hpg
/-- How far Crash has come: the pages kept by then. -/
def RC (w : World) (r : RD) (n : Nat) (d : DK.D) (keep : List Int) (A : Option Addr) (ks : List DK.Pg) (wr : World) : Prop :=
  ∃ K1, RAt wr { r with K := K1 } n { d with kept := ks } ∧ IntsAt wr A keep ∧ Chg (fun j => j = r.gk) w wr
def RCrash (w : World) (r : RD) (n : Nat) (d : DK.D) (keep : List Int) (e : Ending) (w' : World) : Prop :=
  ∃ r' : RD, e = .returned (.tuple #[]) ∧ RAt w' r' n (DK.crash d keep) ∧ RMoved w r r' w'
section
variable {w wr : World} {r : RD} {n : Nat} {d : DK.D} {keep : List Int} {A : Option Addr} {ks : List DK.Pg}
theorem RC.ext (h : RC w r n d keep A ks wr) {w3 : World} (hb : Below wr.heap.size wr w3) : RC w r n d keep A ks w3 := by
  obtain ⟨K1, h1, h2, h3⟩ := h
  exact ⟨K1, h1.ext hb, h2.ext hb, h3.trans (Chg.of_below hb) (fun i hi hS => absurd hS (by have := h3.size; omega))⟩
theorem RC.set (h : RC w r n d keep A ks wr) (hA : keep ≠ [] → ∀ y, A = some y → ¬ r.fp y.block) {i : Nat} {x : Nat × DK.Pg} {pr : PR} (hx : d.ws[i]? = some x) (hr : r.W[i]? = some (x.1, pr)) (hp : pr.p = x.2) : RC w r n d keep A (ks.set x.1 x.2) (wr.setCell ⟨r.gk, x.1, none⟩ (pv pr)) := by
  obtain ⟨K1, h1, h2, h3⟩ := h
  have hw := h1.ok.wp x (List.mem_of_getElem? hx)
  have hpr : POk wr pr := h1.pw _ (List.mem_of_getElem? hr)
  have := h1.setKept hw.2 hpr (by rw [hp]; exact hw.1)
  rw [hp] at this
  exact ⟨_, this, h2.chg (chg_cell wr r.gk x.1 (pv pr)) (fun hk y hy e => hA hk y hy (.inr (.inl e))), h3.setCell (p := ⟨r.gk, x.1, none⟩) (fun _ => rfl) _⟩
theorem set_set {α : Type} (l : List α) (i : Nat) (x : α) : (l.set i x).set i x = l.set i x := by simp
end
/-- The pages kept when the i-th write has been held against the first j of the numbers. -/
def layj (d : DK.D) (keep : List Int) (i j : Nat) (x : Nat × DK.Pg) : List DK.Pg :=
  if decide ((i : Int) ∈ keep.take j) = true then (DK.lay keep 0 (d.ws.take i) d.kept).set x.1 x.2 else DK.lay keep 0 (d.ws.take i) d.kept
theorem layj_zero (d : DK.D) (keep : List Int) (i : Nat) (x : Nat × DK.Pg) : layj d keep i 0 x = DK.lay keep 0 (d.ws.take i) d.kept := by simp [layj]
theorem layj_yes {d : DK.D} {keep : List Int} {i j : Nat} {x : Nat × DK.Pg} (h : keep[j]? = some (i : Int)) : layj d keep i (j + 1) x = (layj d keep i j x).set x.1 x.2 := by
  have h1 : (i : Int) ∈ keep.take (j + 1) := by rw [take_snoc' h]; simp
  unfold layj
  rw [if_pos (by simpa using h1)]
  split
  · rw [set_set]
  · rfl
theorem layj_no {d : DK.D} {keep : List Int} {i j : Nat} {y : Int} {x : Nat × DK.Pg} (h : keep[j]? = some y) (hne : y ≠ i) : layj d keep i (j + 1) x = layj d keep i j x := by
  have h1 : ((i : Int) ∈ keep.take (j + 1)) ↔ ((i : Int) ∈ keep.take j) := by
    rw [take_snoc' h, List.mem_append]
    constructor
    · rintro (h | h)
      · exact h
      · simp at h; exact absurd h.symm hne
    · exact .inl
  unfold layj
  simp only [h1]
theorem layj_end {d : DK.D} {keep : List Int} {i : Nat} {x : Nat × DK.Pg} (hx : d.ws[i]? = some x) : layj d keep i keep.length x = DK.lay keep 0 (d.ws.take (i + 1)) d.kept := by
  have hl : i ≤ d.ws.length := Nat.le_of_lt (List.getElem?_eq_some_iff.1 hx).1
  unfold layj
  rw [take_snoc' hx, DK.lay_snoc, List.take_length, Nat.zero_add, List.length_take, Nat.min_eq_left hl]
theorem rcrash_end {w w1 w2 : World} {r : RD} {n g c : Nat} {d : DK.D} {keep : List Int} {K1 : List PR} (hok : DK.Ok n d) (h1 : RAt w1 { r with K := K1 } n { d with kept := DK.lay keep 0 (d.ws.take d.ws.length) d.kept }) (c1 : Chg (fun j => j = r.gk) w w1)
    (hc : Chg (fun k => (Value.slice none 0 0).ownBlock = some k) w1 w2) (hg : g = w1.heap.size) (ho : w2.ownsRow 0 33 1 (.slice (some ⟨g, 0, none⟩) n c) n (K1.map pv)) :
    RCrash w r n d keep (.returned (.tuple #[])) ((((w2.setCell ⟨r.g, 1, none⟩ (.slice (some ⟨g, 0, none⟩) n c)).setCell ⟨r.g, 2, none⟩ (.slice none 0 0)).setCell ⟨r.g, 3, none⟩ (.int .i64 (-1))).setCell ⟨r.g, 4, none⟩ (.bool false)) := by
  have h2 := h1.chg hc (fun k _ h => none_blk (P := fun _ => False) k h) none_blk
  have hug : r.g < w1.heap.size := h1.lt (.inl rfl)
  have hgk : r.gk < w1.heap.size := h1.lt (.inr (.inl rfl))
  rw [List.take_length] at h1 h2
  obtain ⟨w9, hw9⟩ : ∃ w9, w9 = ((((w2.setCell ⟨r.g, 1, none⟩ (.slice (some ⟨g, 0, none⟩) n c)).setCell ⟨r.g, 2, none⟩ (.slice none 0 0)).setCell ⟨r.g, 3, none⟩ (.int .i64 (-1))).setCell ⟨r.g, 4, none⟩ (.bool false)) := ⟨_, rfl⟩
  have cc : Chg (fun k => k = r.g) w2 w9 := by rw [hw9]; exact ((((Chg.refl (fun k => k = r.g) w2).setCell (p := ⟨r.g, 1, none⟩) (fun _ => rfl) _).setCell (p := ⟨r.g, 2, none⟩) (fun _ => rfl) _).setCell (p := ⟨r.g, 3, none⟩) (fun _ => rfl) _).setCell (p := ⟨r.g, 4, none⟩) (fun _ => rfl) _
  have hp : ∀ x ∈ K1, POk w9 x := fun x hx => (h2.pk x hx).chg cc (fun k hk => by subst hk; exact h2.nopage (.inl rfl))
  rw [← hw9]
  refine ⟨⟨r.g, r.gk, r.ck, g, c, .slice none 0 0, K1, K1, []⟩, rfl, ⟨hok.crash keep, h1.pos, h1.le, by rw [hw9]; simpa [DK.crash] using (((h2.blk.set_ 1 (.slice (some ⟨g, 0, none⟩) n c)).set_ 2 (.slice none 0 0)).set_ 3 (.int .i64 (-1))).set_ 4 (.bool false), own_chg h2.rk cc ?_, own_chg ho cc ?_, World.ownsRow_nil _ _ _ _, ?_, h1.hk, h1.hk, rfl, hp, hp, fun x hx => (by cases hx)⟩, rfl, ?_, ?_⟩
  · intro k hk; simp [Value.ownBlock] at hk; subst hk; exact h1.ggk
  · intro k hk; simp [Value.ownBlock] at hk; subst hk; omega
  · show r.gk ≠ g
    omega
  · have c2 : Chg r.fp w w2 := (c1.mono (fun k _ hk => Or.inr (Or.inl hk))).trans hc (fun k _ hk => none_blk (P := r.fp) k hk)
    exact c2.trans cc (fun k _ hk => .inl hk)
  · have := c1.size
    rintro k (h | h | h | h)
    · exact .inl (.inl h)
    · exact .inl (.inr (.inl h))
    · simp only at h; right; omega
    · simp [Value.ownBlock] at h
theorem rws_form {w : World} {r : RD} {n : Nat} {d : DK.D} (h : RAt w r n d) : ∃ B c, r.wv = .slice B d.ws.length c ∧ d.ws.length ≤ maxLen ∧ (0 < d.ws.length → ∃ g, B = some ⟨g, 0, none⟩) := by
  rcases h.rw.2 with ⟨h1, h2⟩ | ⟨g, cap, cur, h1, _, _, h2, h3, _⟩
  · rw [h2]; exact ⟨none, 0, h1, by unfold maxLen; omega, fun h => by omega⟩
  · exact ⟨some ⟨g, 0, none⟩, cap, h1, Nat.le_trans h2 h3, fun _ => ⟨g, rfl⟩⟩
theorem RAt.ws_cells {w : World} {r : RD} {n : Nat} {d : DK.D} (h : RAt w r n d) {g L c : Nat} (hv : r.wv = .slice (some ⟨g, 0, none⟩) L c) (hL : L = d.ws.length) {k : Nat} {y : Nat × PR} (hy : r.W[k]? = some y) : w.cell? ⟨g, k * 2, none⟩ = some (.int .i64 y.1) ∧ w.cell? ⟨g, k * 2 + 1, none⟩ = some (pv y.2) := by
  subst hL
  have := h.rw
  rw [hv] at this
  have hr : w.rangeAt g (k * 2) (wC y) := own_range this (fun _ _ h' => rowsOf_get (f := wC) (S := 2) (fun _ _ => rfl) hy h')
  exact ⟨hr 0 _ rfl, hr 1 _ rfl⟩
theorem RAt.ws_get {w : World} {r : RD} {n : Nat} {d : DK.D} (h : RAt w r n d) {k : Nat} {x : Nat × DK.Pg} (hx : d.ws[k]? = some x) : ∃ pr, r.W[k]? = some (x.1, pr) ∧ pr.p = x.2 := by
  rw [← h.hw, List.getElem?_map] at hx
  cases hy : r.W[k]? with
  | none => rw [hy] at hx; simp at hx
  | some y => rw [hy] at hx; simp at hx; obtain ⟨y1, y2⟩ := y; subst hx; exact ⟨y2, rfl, rfl⟩
end Go.Proofs.YtenjblonepegfaaDoor
