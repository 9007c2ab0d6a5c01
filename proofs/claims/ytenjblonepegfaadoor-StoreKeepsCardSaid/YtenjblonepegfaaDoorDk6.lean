/-
  Walk of (*Disk).Crash. Condition: the disk lies in memory as 'DAt' says, the row 'keep' as 'IntsAt', not in the disk's blocks.
-/
import Derived.Test.YtenjblonepegfaaDoorDk5
namespace Go.Proofs.YtenjblonepegfaaDoor
open Go Go.RowKit

/-- The kept page at a place is set. -/
theorem DAt.setKept {w : World} {u : Dsk} {n : Nat} {d : DK.D} (h : DAt w u n d) {i : Nat} (hi : i < n) {p : DK.Pg} (hp : p.length = 32) : DAt (w.setCells u.gk (i * 32) (DK.pgv p)) u n { d with kept := d.kept.set i p } := by
  have c : Chg (fun k => k = u.gk) w (w.setCells u.gk (i * 32) (DK.pgv p)) := chg_setCells _ _ _ (Chg.refl _ _) (fun _ => rfl)
  have hl : i < d.kept.length := by rw [h.ok.lk]; exact hi
  have hr := own_setCells (DK.pgv p) (i * 32) w _ h.rk (by rw [DK.pgv_len hp, DK.pagesV, rowsOf_len h.ok.kl, h.ok.lk]; omega)
  rw [DK.pagesV, rowsOf_set h.ok.kl hl (DK.pgv_len hp)] at hr
  refine ⟨⟨by simpa using h.ok.lk, h.ok.ln, ?_, h.ok.np, h.ok.wp, h.ok.left⟩, h.pos, h.le, h.blk.chg c (fun e => h.ggk e.symm), hr, own_chg h.rn c (by intro k hk; simp [Value.ownBlock] at hk; have := h.n1; omega), own_chg h.rw c (by rintro k hk rfl; exact h.gwk hk), h.n1⟩
  intro q hq
  rcases DK.mem_set hq with hq | rfl
  · exact h.ok.kp q hq
  · exact hp
/-- How far Crash has come. -/
def CrRel (w : World) (u : Dsk) (n : Nat) (d : DK.D) (keep : List Int) (A : Option Addr) (k : Nat) (wr : World) : Prop :=
  DK.Ok n d ∧ DAt wr u n { d with kept := DK.lay keep 0 (d.ws.take k) d.kept } ∧ IntsAt wr A keep ∧ Chg (fun j => j = u.gk) w wr
/-- What Crash leaves. -/
def DCrash (w : World) (u : Dsk) (n : Nat) (d : DK.D) (keep : List Int) (e : Ending) (w' : World) : Prop :=
  ∃ u' : Dsk, e = .returned (.tuple #[]) ∧ DAt w' u' n (DK.crash d keep) ∧ DMoved w u u' w'
theorem IntsAt.chg {S : Nat → Prop} {w w' : World} {a : Option Addr} {xs : List Int} (h : IntsAt w a xs) (hc : Chg S w w') (hn : xs ≠ [] → ∀ x, a = some x → ¬ S x.block) : IntsAt w' a xs := by
  by_cases h0 : xs = []
  · exact .inl h0
  rcases h with h | ⟨b, off, rfl, hb, hx⟩
  · exact .inl h
  · exact .inr ⟨b, off, rfl, Nat.lt_of_lt_of_le hb hc.size, fun i v hv => (hc.cell (p := ⟨b, off + i, none⟩) hb (hn h0 ⟨b, off, none⟩ rfl)).trans (hx i v hv)⟩

theorem crash_end {w w1 w2 : World} {u : Dsk} {n g c : Nat} {d : DK.D} {keep : List Int} {A : Option Addr} (hR : CrRel w u n d keep A d.ws.length w1) (hg : w1.heap.size ≤ g) (ho : w2.ownsRow 0 124 32 (.slice (some ⟨g, 0, none⟩) n c) n (DK.pagesV (DK.lay keep 0 (d.ws.take d.ws.length) d.kept))) (hb : Below w1.heap.size w1 w2) :
    DCrash w u n d keep (.returned (.tuple #[])) ((((w2.setCell ⟨u.g, 1, none⟩ (.slice (some ⟨g, 0, none⟩) n c)).setCell ⟨u.g, 2, none⟩ (.slice none 0 0)).setCell ⟨u.g, 3, none⟩ (.int .i64 (-1))).setCell ⟨u.g, 4, none⟩ (.bool false)) := by
  obtain ⟨hok, h1, _, c1⟩ := hR
  have h2 := h1.ext hb
  have hug : u.g < w1.heap.size := h1.lt (.inl rfl)
  have hgk : u.gk < w1.heap.size := h1.lt (.inr (.inl rfl))
  rw [List.take_length] at ho h1 h2
  refine ⟨⟨u.g, u.gk, u.ck, g, c, .slice none 0 0⟩, rfl, ⟨hok.crash keep, h1.pos, h1.le, by simpa [DK.crash] using (((h2.blk.set_ 1 (.slice (some ⟨g, 0, none⟩) n c)).set_ 2 (.slice none 0 0)).set_ 3 (.int .i64 (-1))).set_ 4 (.bool false), ?_, ?_, World.ownsRow_nil _ _ _ _, ?_⟩, rfl, ?_, ?_⟩
  · exact own_far (own_far (own_far (own_far h2.rk (by simpa [Value.ownBlock] using h1.ggk) _) (by simpa [Value.ownBlock] using h1.ggk) _) (by simpa [Value.ownBlock] using h1.ggk) _) (by simpa [Value.ownBlock] using h1.ggk) _
  · exact own_far (own_far (own_far (own_far ho (by simp [Value.ownBlock]; omega) _) (by simp [Value.ownBlock]; omega) _) (by simp [Value.ownBlock]; omega) _) (by simp [Value.ownBlock]; omega) _
  · show u.gk ≠ g
    omega
  · have c2 : Chg u.fp w w2 := (c1.mono (fun k _ hk => Or.inr (Or.inl hk))).trans (Chg.of_below hb) (fun i hi hS => absurd hS (by have := c1.size; omega))
    exact (((c2.setCell (p := ⟨u.g, 1, none⟩) (fun _ => .inl rfl) _).setCell (p := ⟨u.g, 2, none⟩) (fun _ => .inl rfl) _).setCell (p := ⟨u.g, 3, none⟩) (fun _ => .inl rfl) _).setCell (p := ⟨u.g, 4, none⟩) (fun _ => .inl rfl) _
  · have := c1.size
    rintro k (h | h | h | h)
    · exact .inl (.inl h)
    · exact .inl (.inr (.inl h))
    · simp only at h; right; omega
    · simp [Value.ownBlock] at h
end Go.Proofs.YtenjblonepegfaaDoor
