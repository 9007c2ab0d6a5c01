/-
  What a store keeps through saves, failures and crashes, in plain Lean. Conditions: 62 pages or more, small turns, 960 bytes or fewer.
-/
import Derived.Test.YtenjblonepegfaaDoorSt13
namespace Go.Proofs.YtenjblonepegfaaDoor
open Go Go.RowKit
set_option linter.unusedVariables false

def HeadP (ps : List DK.Pg) (i : Nat) (t l : Int) : Prop := (ps[i]? = some (DK.put (hbs t l)) ∧ 0 ≤ t ∧ t ≤ 200 ∧ 0 ≤ l ∧ l ≤ 960 ∧ t % 2 = (i : Int)) ∨ (ps[i]? = some DK.zero ∧ t = -1 ∧ l = 0)
def chunk (b : List Int) (i : Nat) : List Int := (b.drop (32 * i)).take 32
/-- Pages that hold bytes whole, at a turn. -/
structure GoodP (n : Nat) (ps : List DK.Pg) (t : Nat) (b : List Int) : Prop where
  ln : ps.length = n
  tl : t ≤ 100
  bl : b.length ≤ 960
  hd : ps[t % 2]? = some (DK.put (hbs t b.length))
  ot : ∃ t' l', HeadP ps ((t + 1) % 2) t' l' ∧ t' < t
  dat : ∀ i, 32 * i < b.length → ps[2 + t % 2 * 30 + i]? = some (DK.put (chunk b i))
structure Good (n : Nat) (d : DK.D) (t : Nat) (b : List Int) : Prop where
  ps : GoodP n d.now t b
  dn : d.down = false
  ws : d.ws = []
  kn : d.kept = d.now
/-- The pages of the other place. -/
def inP (t k : Nat) : Prop := 2 + (t + 1) % 2 * 30 ≤ k ∧ k < 32 + (t + 1) % 2 * 30
theorem GoodP.off {n : Nat} {ps qs : List DK.Pg} {t : Nat} {b : List Int} (h : GoodP n ps t b) (hl : qs.length = n) (ho : ∀ k, ¬ inP t k → qs[k]? = ps[k]?) : GoodP n qs t b := by
  refine ⟨hl, h.tl, h.bl, ?_, ?_, fun i hi => ?_⟩
  · rw [ho _ (by unfold inP; omega)]; exact h.hd
  · obtain ⟨t', l', h1, h2⟩ := h.ot
    refine ⟨t', l', ?_, h2⟩
    unfold HeadP at h1 ⊢
    rw [ho _ (by unfold inP; omega)]; exact h1
  · rw [ho _ (by unfold inP; have := h.bl; omega)]; exact h.dat i hi
theorem GoodP.next {n : Nat} {ps : List DK.Pg} {t : Nat} {b c : List Int} (hn : 62 ≤ n) (h : GoodP n ps t b) (ht : t + 1 ≤ 100) (hc : c.length ≤ 960) (hd : ∀ i, 32 * i < c.length → ps[2 + (t + 1) % 2 * 30 + i]? = some (DK.put (chunk c i))) :
    GoodP n (ps.set ((t + 1) % 2) (DK.put (hbs ((t + 1 : Nat) : Int) c.length))) (t + 1) c := by
  have hl : (t + 1) % 2 < ps.length := by rw [h.ln]; omega
  refine ⟨by simpa using h.ln, ht, hc, by rw [List.getElem?_set_self hl], ⟨t, b.length, .inl ⟨?_, by omega, by have := h.tl; omega, by omega, by have := h.bl; omega, by omega⟩, by omega⟩, fun i hi => ?_⟩
  · rw [List.getElem?_set_ne (by omega), show (t + 1 + 1) % 2 = t % 2 by omega]; exact h.hd
  · rw [List.getElem?_set_ne (by omega)]; exact hd i hi
theorem wr_fine {n : Nat} {d : DK.D} {i : Nat} {b : List Int} (hi : i < n) (hb : b.length ≤ 32) (hs : DK.stopped d = false) : wrErr n d i b = none ∧ wrTo n d i b = DK.write (DK.step d) i b := by
  have h1 : ¬ ((i : Int) < 0 ∨ (n : Int) ≤ i) := by omega
  have h2 : ¬ 32 < b.length := by omega
  unfold wrErr wrTo
  rw [if_neg h1, if_neg h2, hs, if_neg h1, if_neg h2]
  exact ⟨rfl, rfl⟩
theorem wr_stop {n : Nat} {d : DK.D} {i : Nat} {b : List Int} (hi : i < n) (hb : b.length ≤ 32) (hs : DK.stopped d = true) : wrErr n d i b = some 8 ∧ wrTo n d i b = DK.step d := by
  have h1 : ¬ ((i : Int) < 0 ∨ (n : Int) ≤ i) := by omega
  have h2 : ¬ 32 < b.length := by omega
  unfold wrErr wrTo
  rw [if_neg h1, if_neg h2, hs, if_neg h1, if_neg h2]
  exact ⟨rfl, rfl⟩
theorem step_run {d : DK.D} (hs : DK.stopped d = false) : DK.step d = { d with left := max (d.left - 1) (-1) } := by simp [DK.step, hs]
theorem step_stop {d : DK.D} (hs : DK.stopped d = true) : DK.step d = { d with down := true } := by simp [DK.step, hs]
/-- What has been written since, into the other place alone. -/
structure Mid (n t : Nat) (p0 : List DK.Pg) (l0 : Int) (d : DK.D) : Prop where
  kept : d.kept = p0
  lf : l0 = -1 → d.left = -1
  dn : d.down = false
  ln : d.now.length = n
  off : ∀ k, ¬ inP t k → d.now[k]? = p0[k]?
  ws : ∀ x ∈ d.ws, inP t x.1
/-- A save that was stopped: only the other place may have turned. -/
structure Bad (n t : Nat) (p0 : List DK.Pg) (d : DK.D) : Prop where
  kept : d.kept = p0
  ws : ∀ x ∈ d.ws, inP t x.1
theorem Mid.stop {n t : Nat} {p0 : List DK.Pg} {l0 : Int} {d : DK.D} (h : Mid n t p0 l0 d) (hs : DK.stopped d = true) : l0 ≠ -1 ∧ Bad n t p0 (DK.step d) := by
  rw [step_stop hs]
  refine ⟨fun hl => ?_, h.kept, h.ws⟩
  have := h.lf hl
  simp [DK.stopped, h.dn, this] at hs
theorem lay_off (keep : List Int) (t : Nat) : ∀ (ws : List (Nat × DK.Pg)) (i : Nat) (ps : List DK.Pg), (∀ x ∈ ws, inP t x.1) → (DK.lay keep i ws ps).length = ps.length ∧ ∀ k, ¬ inP t k → (DK.lay keep i ws ps)[k]? = ps[k]?
  | [], _, ps, _ => ⟨rfl, fun _ _ => rfl⟩
  | x :: ws, i, ps, h => by
    rw [DK.lay]
    obtain ⟨h1, h2⟩ := lay_off keep t ws (i + 1) (if decide ((i : Int) ∈ keep) = true then ps.set x.1 x.2 else ps) (fun y hy => h y (by simp [hy]))
    refine ⟨?_, fun k hk => ?_⟩
    · rw [h1]; split <;> simp
    · rw [h2 k hk]
      split
      · rw [List.getElem?_set_ne]
        rintro rfl
        exact hk (h x (by simp))
      · rfl
theorem Bad.crash {n t : Nat} {p0 : List DK.Pg} {d : DK.D} {b : List Int} (h : Bad n t p0 d) (hg : GoodP n p0 t b) (keep : List Int) : Good n (DK.crash d keep) t b := by
  have := lay_off keep t d.ws 0 d.kept h.ws
  rw [h.kept] at this
  refine ⟨hg.off ?_ ?_, rfl, rfl, rfl⟩
  · simp only [DK.crash]; rw [h.kept, this.1]; exact hg.ln
  · intro k hk; simp only [DK.crash]; rw [h.kept, this.2 k hk]
theorem Mid.write {n t : Nat} {p0 : List DK.Pg} {l0 : Int} {d : DK.D} (h : Mid n t p0 l0 d) (hs : DK.stopped d = false) {k : Nat} (hk : inP t k) (b : List Int) : Mid n t p0 l0 (DK.write (DK.step d) k b) := by
  rw [step_run hs]
  refine ⟨h.kept, fun hl => by simp [DK.write, h.lf hl]; decide, h.dn, by simpa [DK.write] using h.ln, fun j hj => ?_, fun x hx => ?_⟩
  · simp only [DK.write]
    rw [List.getElem?_set_ne]
    · exact h.off j hj
    · rintro rfl; exact hj hk
  · simp [DK.write] at hx
    rcases hx with hx | rfl
    · exact h.ws x hx
    · exact hk
theorem layW_law {n t : Nat} {p0 : List DK.Pg} {l0 : Int} {c : List Int} (hn : 62 ≤ n) (hc : c.length ≤ 960) : ∀ (f i : Nat) (d : DK.D), f + i = 30 → Mid n t p0 l0 d → (∀ j, j < i → 32 * j < c.length → d.now[2 + (t + 1) % 2 * 30 + j]? = some (DK.put (chunk c j))) →
    (∃ d1, layW n f d ((2 + (t + 1) % 2 * 30 + i : Nat) : Int) (c.drop (32 * i)) = (none, d1) ∧ Mid n t p0 l0 d1 ∧ ∀ j, 32 * j < c.length → d1.now[2 + (t + 1) % 2 * 30 + j]? = some (DK.put (chunk c j))) ∨
    (∃ d1, layW n f d ((2 + (t + 1) % 2 * 30 + i : Nat) : Int) (c.drop (32 * i)) = (some 8, d1) ∧ l0 ≠ -1 ∧ Bad n t p0 d1)
  | 0, i, d, hf, hm, hd => .inl ⟨d, rfl, hm, fun j hj => hd j (by omega) hj⟩
  | f + 1, i, d, hf, hm, hd => by
    by_cases h0 : (c.drop (32 * i)).length = 0
    · refine .inl ⟨d, layW_nil h0, hm, fun j hj => hd j ?_ hj⟩
      rw [List.length_drop] at h0; omega
    · have hk : inP t (2 + (t + 1) % 2 * 30 + i) := by unfold inP; omega
      have hi : 2 + (t + 1) % 2 * 30 + i < n := by omega
      have hb : ((c.drop (32 * i)).take 32).length ≤ 32 := by rw [List.length_take]; omega
      cases hs : DK.stopped d
      · obtain ⟨e1, e2⟩ := wr_fine hi hb hs
        rw [layW_none h0 e1, e2]
        have hm1 := hm.write hs hk ((c.drop (32 * i)).take 32)
        have := layW_law hn hc f (i + 1) _ (by omega) hm1 (fun j hj hjc => by
          simp only [DK.write, step_run hs]
          by_cases hji : j = i
          · subst hji
            rw [List.getElem?_set_self (by rw [hm.ln]; exact hi)]; rfl
          · rw [List.getElem?_set_ne (by omega)]
            exact hd j (by omega) hjc)
        rw [show ((2 + (t + 1) % 2 * 30 + i : Nat) : Int) + 1 = ((2 + (t + 1) % 2 * 30 + (i + 1) : Nat) : Int) by omega, List.drop_drop, show 32 * i + 32 = 32 * (i + 1) by omega]
        exact this
      · obtain ⟨e1, e2⟩ := wr_stop hi hb hs
        rw [layW_some h0 e1, e2]
        obtain ⟨q1, q2⟩ := hm.stop hs
        exact .inr ⟨_, rfl, q1, q2⟩
/-- What Save leaves on a disk. -/
def SaveOk (n : Nat) (d : DK.D) (t : Nat) (b c : List Int) (r : Option Int × DK.D) : Prop :=
  (r.1 = none ∧ Good n r.2 (t + 1) c ∧ (d.left = -1 → r.2.left = -1)) ∨ (r.1 = some 8 ∧ d.left ≠ -1 ∧ ∀ keep, Good n (DK.crash r.2 keep) t b ∨ Good n (DK.crash r.2 keep) (t + 1) c)
theorem save_law {n : Nat} {d : DK.D} {t : Nat} {b c : List Int} (hn : 62 ≤ n) (h : Good n d t b) (ht : t + 1 ≤ 100) (hc : c.length ≤ 960) : SaveOk n d t b c (layR n d ((t : Int) + 1) c) := by
  have hm0 : Mid n t d.now d.left d := ⟨h.kn, id, h.dn, h.ps.ln, fun _ _ => rfl, by rw [h.ws]; simp⟩
  have e0 : 2 + ((t : Int) + 1) % 2 * 30 = ((2 + (t + 1) % 2 * 30 + 0 : Nat) : Int) := by omega
  have eT : (t : Int) + 1 = ((t + 1 : Nat) : Int) := by omega
  rcases layW_law hn hc 30 0 d rfl hm0 (fun j hj => by omega) with ⟨d1, h1, hm, hd⟩ | ⟨d1, h1, hl, hb⟩
  · rw [Nat.mul_zero, List.drop_zero, ← e0] at h1
    rw [layR_none (by rw [h1]), h1]
    show SaveOk n d t b c (layS n d1 ((t : Int) + 1) c.length)
    unfold layS syR
    cases hs : DK.stopped d1
    · rw [if_neg (by simp)]
      show SaveOk n d t b c (layH n (DK.sync (DK.step d1)) ((t : Int) + 1) c.length)
      rw [step_run hs]
      obtain ⟨d2, hd2⟩ : ∃ x, x = DK.sync { d1 with left := max (d1.left - 1) (-1) } := ⟨_, rfl⟩
      rw [← hd2]
      have k1 : d2.now = d1.now := by rw [hd2]; rfl
      have k2 : d2.kept = d1.now := by rw [hd2]; rfl
      have k3 : d2.ws = [] := by rw [hd2]; rfl
      have k4 : d2.down = false := by rw [hd2]; exact hm.dn
      have k5 : d.left = -1 → d2.left = -1 := fun hl => by rw [hd2]; simp [DK.sync, hm.lf hl]; decide
      have hg : GoodP n d1.now t b := h.ps.off hm.ln hm.off
      have hg2 := hg.next hn ht hc hd
      unfold layH
      have ei : ((t : Int) + 1) % 2 = (((t + 1) % 2 : Nat) : Int) := by omega
      rw [ei, eT]
      have hi : (t + 1) % 2 < n := by omega
      have hb7 : (hbs ((t + 1 : Nat) : Int) c.length).length ≤ 32 := by simp [hbs]
      cases hs2 : DK.stopped d2
      · obtain ⟨e1, e2⟩ := wr_fine (d := d2) hi hb7 hs2
        rw [e1, e2]
        show SaveOk n d t b c (syR _)
        unfold syR
        rw [step_run hs2]
        obtain ⟨d3, hd3⟩ : ∃ x, x = DK.write { d2 with left := max (d2.left - 1) (-1) } ((t + 1) % 2) (hbs ((t + 1 : Nat) : Int) c.length) := ⟨_, rfl⟩
        rw [← hd3]
        have m1 : d3.now = d1.now.set ((t + 1) % 2) (DK.put (hbs ((t + 1 : Nat) : Int) c.length)) := by rw [hd3, ← k1]; rfl
        have m2 : d3.kept = d1.now := by rw [hd3]; exact k2
        have m3 : d3.ws = [((t + 1) % 2, DK.put (hbs ((t + 1 : Nat) : Int) c.length))] := by rw [hd3]; simp [DK.write, k3]
        have m4 : d3.down = false := by rw [hd3]; exact k4
        have m5 : d.left = -1 → d3.left = -1 := fun hl => by rw [hd3]; simp [DK.write, k5 hl]; decide
        cases hs3 : DK.stopped d3
        · rw [if_neg (by simp), step_run hs3]
          refine .inl ⟨rfl, ⟨?_, m4, rfl, rfl⟩, fun hl => by simp [DK.sync, m5 hl]; decide⟩
          show GoodP n d3.now (t + 1) c
          rw [m1]; exact hg2
        · rw [if_pos rfl, step_stop hs3]
          refine .inr ⟨rfl, fun hl => by simp [DK.stopped, m4, m5 hl] at hs3, fun keep => ?_⟩
          have e : (DK.crash { d3 with down := true } keep).now = if decide (((0 : Nat) : Int) ∈ keep) = true then d1.now.set ((t + 1) % 2) (DK.put (hbs ((t + 1 : Nat) : Int) c.length)) else d1.now := by
            simp only [DK.crash, m2, m3, DK.lay]
          by_cases hk : decide (((0 : Nat) : Int) ∈ keep) = true
          · rw [if_pos hk] at e
            exact .inr ⟨by rw [e]; exact hg2, rfl, rfl, rfl⟩
          · rw [if_neg hk] at e
            exact .inl ⟨by rw [e]; exact hg, rfl, rfl, rfl⟩
      · obtain ⟨e1, e2⟩ := wr_stop (d := d2) hi hb7 hs2
        rw [e1, e2, step_stop hs2]
        refine .inr ⟨rfl, fun hl => by simp [DK.stopped, k4, k5 hl] at hs2, fun keep => .inl ⟨?_, rfl, rfl, rfl⟩⟩
        simp only [DK.crash, k2, k3, DK.lay]; exact hg
    · rw [if_pos rfl]
      obtain ⟨q1, q2⟩ := hm.stop hs
      exact .inr ⟨rfl, q1, fun keep => .inl (q2.crash h.ps keep)⟩
  · rw [Nat.mul_zero, List.drop_zero, ← e0] at h1
    rw [layR_some (by rw [h1]), h1]
    exact .inr ⟨rfl, hl, fun keep => .inl (hb.crash h.ps keep)⟩
theorem fmt_good {n : Nat} (hn : 62 ≤ n) : Good n (DK.sync (FmD n 2)) 0 [] ∧ (DK.sync (FmD n 2)).left = -1 := by
  have e1 := wr_fine (n := n) (d := DK.new n) (i := 0) (b := hbs 0 0) (by omega) (by simp [hbs]) rfl
  have e2 := wr_fine (n := n) (d := FmD n 1) (i := 1) (b := []) (by omega) (by simp) ((fm_free n 1).stopped)
  have e3 : FmD n 2 = DK.write (FmD n 1) 1 [] := by
    have := e2.2
    rw [(fm_free n 1).step] at this
    exact this
  have e4 : FmD n 1 = DK.write (DK.new n) 0 (hbs 0 0) := by
    have := e1.2
    rw [(free_new n).step] at this
    exact this
  have e5 : (FmD n 2).now = ((List.replicate n DK.zero).set 0 (DK.put (hbs 0 0))).set 1 (DK.put []) := by rw [e3, e4]; rfl
  refine ⟨⟨?_, (fm_free n 2).2, rfl, rfl⟩, (fm_free n 2).1⟩
  show GoodP n (FmD n 2).now 0 []
  rw [e5]
  refine ⟨by simp, by omega, by simp, ?_, ⟨-1, 0, .inr ⟨?_, rfl, rfl⟩, by omega⟩, fun i hi => by simp at hi⟩
  · rw [List.getElem?_set_ne (by omega), List.getElem?_set_self (by simp; omega)]; rfl
  · rw [List.getElem?_set_self (by simp; omega)]; rfl
theorem Good.crash {n : Nat} {d : DK.D} {t : Nat} {b : List Int} (h : Good n d t b) (keep : List Int) : Good n (DK.crash d keep) t b := by
  have e : DK.crash d keep = ⟨d.now, d.now, [], -1, false⟩ := by simp [DK.crash, h.ws, h.kn, DK.lay]
  rw [e]
  exact ⟨h.ps, rfl, rfl, rfl⟩
/-- What Open finds. -/
theorem Good.heads {n : Nat} {d : DK.D} {t : Nat} {b : List Int} (h : Good n d t b) : ∃ T L : Nat → Int, (∀ i, i < 2 → HeadAt d i (T i) (L i)) ∧ bestH T L 2 = ((t : Int), (b.length : Int)) := by
  obtain ⟨t', l', h1, h2⟩ := h.ps.ot
  have hd : HeadAt d (t % 2) t b.length := .inl ⟨h.ps.hd, by omega, by have := h.ps.tl; omega, by omega, by have := h.ps.bl; omega, by omega⟩
  have ho : HeadAt d ((t + 1) % 2) t' l' := h1
  have hm : -1 ≤ t' := by rcases h1 with ⟨_, h1, _⟩ | ⟨_, h1, _⟩ <;> omega
  have hml : t' = -1 → l' = 0 := by rcases h1 with ⟨_, h1, _⟩ | ⟨_, _, h1⟩ <;> intros <;> omega
  by_cases h0 : t % 2 = 0
  · rw [h0] at hd
    rw [show (t + 1) % 2 = 1 by omega] at ho
    refine ⟨fun i => if i = 0 then t else t', fun i => if i = 0 then b.length else l', fun i hi => ?_, ?_⟩
    · rcases (show i = 0 ∨ i = 1 by omega) with rfl | rfl
      · simpa using hd
      · simpa using ho
    · have q1 : bestH (fun i => if i = 0 then (t : Int) else t') (fun i => if i = 0 then (b.length : Int) else l') 1 = ((t : Int), (b.length : Int)) := by
        rw [best_yes (by show (-1 : Int) < _; simp; omega)]; simp
      rw [best_no (by rw [q1]; simp; omega), q1]
  · rw [show t % 2 = 1 by omega] at hd
    rw [show (t + 1) % 2 = 0 by omega] at ho
    refine ⟨fun i => if i = 0 then t' else t, fun i => if i = 0 then l' else b.length, fun i hi => ?_, ?_⟩
    · rcases (show i = 0 ∨ i = 1 by omega) with rfl | rfl
      · simpa using ho
      · simpa using hd
    · by_cases hc : (-1 : Int) < t'
      · have q1 : bestH (fun i => if i = 0 then t' else (t : Int)) (fun i => if i = 0 then l' else (b.length : Int)) 1 = (t', l') := by
          rw [best_yes (by show (-1 : Int) < _; simpa using hc)]; simp
        rw [best_yes (by rw [q1]; simpa using h2)]; simp
      · have q1 : bestH (fun i => if i = 0 then t' else (t : Int)) (fun i => if i = 0 then l' else (b.length : Int)) 1 = (-1, 0) := by
          rw [best_no (by show ¬ (-1 : Int) < _; simpa using hc)]; rfl
        rw [best_yes (by rw [q1]; simp; omega)]; simp
theorem blank_heads (n : Nat) (hn : 62 ≤ n) : ∃ T L : Nat → Int, (∀ i, i < 2 → HeadAt (DK.new n) i (T i) (L i)) ∧ bestH T L 2 = (-1, 0) :=
  ⟨fun _ => -1, fun _ => 0, fun i hi => .inr ⟨by simp only [DK.new]; rw [List.getElem?_replicate, if_pos (by omega)], rfl, rfl⟩, by decide⟩
end Go.Proofs.YtenjblonepegfaaDoor
