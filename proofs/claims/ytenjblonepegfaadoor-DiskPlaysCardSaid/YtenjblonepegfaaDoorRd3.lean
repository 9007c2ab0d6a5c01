/-
  The references' disk: Sync. Condition: the disk lies as 'RAt' says.
-/
import Derived.Test.YtenjblonepegfaaDoorRd2
namespace Go.Proofs.YtenjblonepegfaaDoor
open Go Go.RowKit
set_option linter.unusedVariables false

theorem own_at {w : World} {e : TypeId} {size n c : Nat} {A : Option Addr} {xs : List Value} (h : w.ownsRow 0 e size (.slice A n c) n xs) (hp : 0 < n) : ∃ g, A = some ⟨g, 0, none⟩ := by
  rcases h.2 with ⟨h0, _⟩ | ⟨g, cap, cur, h0, _⟩
  · injection h0 with h1 h2 h3; omega
  · injection h0 with h1 h2 h3; exact ⟨g, by simpa using h1⟩
theorem none_blk {P : Nat → Prop} : ∀ k, (fun k => (Value.slice none 0 0).ownBlock = some k) k → P k := fun k h => by simp [Value.ownBlock] at h
/-- A row of pages, copied: it lies in a block of its own. -/
theorem rows_src {w : World} {g n c : Nat} {xs : List Value} (h : w.ownsRow 0 33 1 (.slice (some ⟨g, 0, none⟩) n c) n xs) : ∀ ad, some (⟨g, 0, none⟩ : Addr) = some ad → ∀ j u, xs[j]? = some u → w.cell? (ad.add j) = some u := by
  intro ad had j u hj
  injection had with had; subst had
  rw [Addr.add_mid, Nat.zero_add]
  have hjn : j < n := by have := (List.getElem?_eq_some_iff.1 hj).1; have := h.1; omega
  rw [h.cellAt j (by omega)]; exact hj
theorem pv_one {K : List PR} : ∀ u ∈ K.map pv, u.oneCell' = true := by
  intro u hu
  obtain ⟨x, _, rfl⟩ := List.mem_map.1 hu
  rfl
theorem rsync_end {w w1 w2 : World} {r : RD} {n g c : Nat} {d : DK.D} (h1 : RAt w1 r n d) (c1 : Chg (fun k => k = r.g) w w1) (hc : Chg (fun k => (Value.slice none 0 0).ownBlock = some k) w1 w2) (hg : g = w1.heap.size)
    (ho : w2.ownsRow 0 33 1 (.slice (some ⟨g, 0, none⟩) n c) n (r.N.map pv)) :
    RAt ((w2.setCell ⟨r.g, 0, none⟩ (.slice (some ⟨g, 0, none⟩) n c)).setCell ⟨r.g, 2, none⟩ (.slice none 0 0)) ⟨r.g, g, c, r.gn, r.cn, .slice none 0 0, r.N, r.N, []⟩ n (DK.sync d) ∧
    RMoved w r ⟨r.g, g, c, r.gn, r.cn, .slice none 0 0, r.N, r.N, []⟩ ((w2.setCell ⟨r.g, 0, none⟩ (.slice (some ⟨g, 0, none⟩) n c)).setCell ⟨r.g, 2, none⟩ (.slice none 0 0)) := by
  have h2 := h1.chg hc (fun k _ h => none_blk (P := fun _ => False) k h) none_blk
  have hug : r.g < w1.heap.size := h1.lt (.inl rfl)
  have hgn : r.gn < w1.heap.size := h1.lt (.inr (.inr (.inl rfl)))
  have cc : Chg (fun k => k = r.g) w2 ((w2.setCell ⟨r.g, 0, none⟩ (.slice (some ⟨g, 0, none⟩) n c)).setCell ⟨r.g, 2, none⟩ (.slice none 0 0)) := ((Chg.refl (fun k => k = r.g) w2).setCell (p := ⟨r.g, 0, none⟩) (fun _ => rfl) _).setCell (p := ⟨r.g, 2, none⟩) (fun _ => rfl) _
  have hp : ∀ x ∈ r.N, POk ((w2.setCell ⟨r.g, 0, none⟩ (.slice (some ⟨g, 0, none⟩) n c)).setCell ⟨r.g, 2, none⟩ (.slice none 0 0)) x := fun x hx => (h2.pn x hx).chg cc (fun k hk => by subst hk; exact h2.nopage (.inl rfl))
  refine ⟨⟨h1.ok.sync, h1.pos, h1.le, by simpa [DK.sync] using (h2.blk.set_ 0 (.slice (some ⟨g, 0, none⟩) n c)).set_ 2 (.slice none 0 0), ?_, ?_, World.ownsRow_nil _ _ _ _, ?_, h1.hn, h1.hn, rfl, hp, hp, fun x hx => (by cases hx)⟩, rfl, ?_, ?_⟩
  · exact own_far (own_far ho (by simp [Value.ownBlock]; omega) _) (by simp [Value.ownBlock]; omega) _
  · exact own_far (own_far h2.rn (by simpa [Value.ownBlock] using h1.ggn) _) (by simpa [Value.ownBlock] using h1.ggn) _
  · show g ≠ r.gn
    omega
  · have c2 : Chg r.fp w w2 := (c1.mono (fun k _ hk => Or.inl hk)).trans hc (fun k _ hk => none_blk (P := r.fp) k hk)
    exact c2.trans cc (fun k _ hk => .inl hk)
  · have := c1.size
    rintro k (h | h | h | h)
    · exact .inl (.inl h)
    · simp only at h; right; omega
    · exact .inl (.inr (.inr (.inl h)))
    · simp [Value.ownBlock] at h
set_option maxHeartbeats 400000 in
theorem rsync_no (w : World) (r : RD) (n : Nat) (d : DK.D) (h : RAt w r n d) (hs : DK.stopped d = true) :
    Calls Tryd.prog 16 #[.pointer (some ⟨r.g, 0, none⟩)] w (RSync w r n d) := by
  have HH := Lib.hid h
  have HS := Lib.hid hs
  clear h hs
  go_enter Tryd.func16, Tryd.ntmps16
  go_wp2_with fail
  refine (rstep_any w r n d HH.out).mono ?_
  rintro e w1 ⟨rfl, h1, c1⟩
  have H1 := Lib.hid h1
  have C1 := Lib.hid c1
  clear h1 c1
  rw [HS.out]
  go_wp2
  go_ret
  refine ⟨r, by rw [HS.out]; rfl, by rw [HS.out]; exact H1.out, rfl, C1.out.mono (fun k _ hk => .inl hk), fun k hk => .inl hk⟩
set_option maxHeartbeats 400000 in
theorem rsync_yes (w : World) (r : RD) (n : Nat) (d : DK.D) (h : RAt w r n d) (hs : DK.stopped d = false) :
    Calls Tryd.prog 16 #[.pointer (some ⟨r.g, 0, none⟩)] w (RSync w r n d) := by
  have HH := Lib.hid h
  have HS := Lib.hid hs
  clear h hs
  go_enter Tryd.func16, Tryd.ntmps16
  go_wp2_with fail
  refine (rstep_any w r n d HH.out).mono ?_
  rintro e w1 ⟨rfl, h1, c1⟩
  have H1 := Lib.hid h1
  have C1 := Lib.hid c1
  have b1 : w1.cell? ⟨r.g, 1, none⟩ = some (.slice (some ⟨r.gn, 0, none⟩) n r.cn) := h1.blk.cell 1
  have hle := h1.le
  have hps := h1.pos
  have HL : Hid ((r.N.map pv).length = n * 1) := h1.rn.1
  have HSRC := Lib.hid (rows_src h1.rn)
  clear h1 c1
  rw [HS.out]
  go_wp2_with (at_builtin; refine wpList_append_rows _ rfl (.tmp 9) (.tmp 13) 43 rfl 33 _ 1 24 Tryd.underlying43 infoPg rfl (by decide) (.slice none 0 0) 0 [] rfl (World.ownsRow_nil _ _ _ _) (some ⟨r.gn, 0, none⟩) n r.cn (r.N.map pv) rfl HL.out (fun h => by cases h) HSRC.out pv_one ⟨by omega, by omega⟩ ?_; intro A2 c2 w2 ho hc hg; simp only [Nat.zero_add, List.nil_append] at ho hg; obtain ⟨g, rfl⟩ := own_at ho hps; have HO := Lib.hid ho; have HC := Lib.hid hc; have HG : Hid (g = w1.heap.size) := (by rcases hg g (by simp [Value.ownBlock]) with h | h; (· simp [Value.ownBlock] at h); (· exact h)); have HD := Lib.hid (H1.out.chg hc (fun k _ h => none_blk (P := fun _ => False) k h) none_blk); have b2 : w2.cell? ⟨r.g, 2, none⟩ = some r.wv := HD.out.blk.cell 2; have b0 : w2.cell? ⟨r.g, 0, none⟩ = some (.slice (some ⟨r.gk, 0, none⟩) n r.ck) := HD.out.blk.cell 0; have f0 := HD.out.blk.frozen 0; have f2 := HD.out.blk.frozen 2; clear ho hc hg)
  go_ret
  obtain ⟨r1, r2⟩ := rsync_end H1.out C1.out HC.out HG.out HO.out
  refine ⟨_, by rw [HS.out]; rfl, by rw [HS.out]; exact r1, r2⟩
theorem rsync_any (w : World) (r : RD) (n : Nat) (d : DK.D) (h : RAt w r n d) :
    Calls Tryd.prog 16 #[.pointer (some ⟨r.g, 0, none⟩)] w (RSync w r n d) := by
  by_cases hs : DK.stopped d = true
  · exact rsync_no w r n d h hs
  · exact rsync_yes w r n d h (by simpa using hs)
end Go.Proofs.YtenjblonepegfaaDoor
