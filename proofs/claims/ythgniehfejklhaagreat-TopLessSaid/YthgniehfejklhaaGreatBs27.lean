/-
  Walks of slices.Index, slices.Contains, footbridgelaw2.has at integers, and of (*Disk).Sync. Condition: the row lies as 'IntsAt' says, the disk as 'DAt'.
-/
import Derived.Test.YthgniehfejklhaaGreatBs25
import Derived.Test.YthgniehfejklhaaGreatBs26
namespace Go.Proofs.YthgniehfejklhaaGreat
open Go Go.RowKit

/-- Is it found? -/
def IndexPost (w : World) (xs : List Int) (x : Int) (e : Ending) (w' : World) : Prop := ∃ r : Int, e = .returned (.int .i64 r) ∧ decide (0 ≤ r) = decide (x ∈ xs) ∧ w = w'
set_option maxHeartbeats 400000 in
theorem dindex_any (w : World) (A : Option Addr) (n c : Nat) (xs : List Int) (x : Int) (hx : IntsAt w A xs) (hn : xs.length = n) (hnb : n ≤ 9223372036854775807) :
    Calls Tryz.prog 95 #[.slice A n c, .int .i64 x] w (IndexPost w xs x) := by
  have HX := Lib.hid hx
  have HN := Lib.hid hn
  clear hx hn
  go_enter Tryz.func95, Tryz.ntmps95
  go_wp2
  go_loop [8] (fun v => ∃ k : Nat, k ≤ n ∧ v = .int .i64 k ∧ x ∉ xs.take k) (fun v => n - (intOf v).toNat)
  case atStart => exact ⟨0, Nat.zero_le _, rfl, by simp⟩
  case round =>
    obtain ⟨k, hk, rfl, ht⟩ := hrel
    have HT := Lib.hid ht
    clear ht
    by_cases hlt : k < n
    · rcases HX.out with h0 | ⟨b, off, rfl, _, hc⟩
      · have := HN.out; subst h0; simp at this; omega
      have hkx : k < xs.length := by rw [HN.out]; exact hlt
      obtain ⟨y, hy⟩ : ∃ y, xs[k]? = some y := ⟨_, List.getElem?_eq_getElem hkx⟩
      have c1 := hc k y hy
      have HY := Lib.hid hy
      have z0 : (0 : Int) ≤ (k : Int) := by omega
      have z1 : (k : Int) < (n : Int) := by omega
      clear hc hy hkx
      by_cases e : x = y
      · have e2 : (x == y) = true := by simp [e]
        have HE := Lib.hid e
        clear e
        go_wp2
        go_ret
        refine ⟨k, rfl, ?_, rfl⟩
        rw [decide_eq_true (by omega), eq_comm, decide_eq_true_eq, HE.out]
        exact List.mem_of_getElem? HY.out
      · have e2 : (x == y) = false := by simpa using e
        have HE := Lib.hid e
        clear e
        go_wp2
        go_round
        case rel =>
          refine ⟨k + 1, by omega, by go_num, ?_⟩
          rw [take_snoc' HY.out, List.mem_append]
          rintro (h | h)
          · exact HT.out h
          · simp at h; exact HE.out h
        case measure => simp [intOf]; omega
    · go_wp2
      go_ret
      refine ⟨-1, rfl, ?_, rfl⟩
      have h := HT.out
      rw [List.take_of_length_le (by have := HN.out; omega)] at h
      rw [decide_eq_false (by omega), eq_comm, decide_eq_false_iff_not]
      exact h
set_option maxHeartbeats 400000 in
theorem contains_any (w : World) (A : Option Addr) (n c : Nat) (xs : List Int) (x : Int) (hx : IntsAt w A xs) (hn : xs.length = n) (hnb : n ≤ 9223372036854775807) :
    Calls Tryz.prog 54 #[.slice A n c, .int .i64 x] w (FoundPost w xs x) := by
  have HX := Lib.hid hx
  have HN := Lib.hid hn
  clear hx hn
  go_enter Tryz.func54, Tryz.ntmps54
  go_wp2_with fail
  refine (dindex_any w A n c xs x HX.out HN.out hnb).mono ?_
  rintro e w' ⟨r, rfl, hr, rfl⟩
  have HR := Lib.hid hr
  clear hr
  go_wp2
  all_goals go_ret
  all_goals (refine ⟨?_, rfl⟩; rw [← HR.out]; simp; try omega)
/-- What Sync leaves. -/
def DSync (w : World) (u : Dsk) (n : Nat) (d : DK.D) (e : Ending) (w' : World) : Prop :=
  ∃ u' : Dsk, e = .returned (if DK.stopped d then derrV 8 else .nilIface) ∧ DAt w' u' n (if DK.stopped d then DK.step d else DK.sync (DK.step d)) ∧ DMoved w u u' w'
set_option maxHeartbeats 400000 in
theorem dsync_no (w : World) (u : Dsk) (n : Nat) (d : DK.D) (h : DAt w u n d) (hs : DK.stopped d = true) :
    Calls Tryz.prog 85 #[.pointer (some ⟨u.g, 0, none⟩)] w (DSync w u n d) := by
  have HH := Lib.hid h
  have HS := Lib.hid hs
  clear h hs
  go_enter Tryz.func85, Tryz.ntmps85
  go_wp2_with fail
  refine (dstep_any w u n d HH.out).mono ?_
  rintro e w1 ⟨rfl, h1, c1⟩
  have H1 := Lib.hid h1
  have C1 := Lib.hid c1
  clear h1 c1
  rw [HS.out]
  go_wp2
  go_ret
  refine ⟨u, by rw [HS.out]; rfl, by rw [HS.out]; exact H1.out, rfl, C1.out.mono (fun k _ hk => .inl hk), fun k hk => .inl hk⟩
theorem sync_end {w w1 w2 : World} {u : Dsk} {n g c : Nat} {d : DK.D} (h1 : DAt w1 u n d) (c1 : Chg (fun k => k = u.g) w w1) (hg : w1.heap.size ≤ g) (ho : w2.ownsRow 0 104 32 (.slice (some ⟨g, 0, none⟩) n c) n (DK.pagesV d.now)) (hb : Below w1.heap.size w1 w2) :
    DAt ((w2.setCell ⟨u.g, 0, none⟩ (.slice (some ⟨g, 0, none⟩) n c)).setCell ⟨u.g, 2, none⟩ (.slice none 0 0)) ⟨u.g, g, c, u.gn, u.cn, .slice none 0 0⟩ n (DK.sync d) ∧
    DMoved w u ⟨u.g, g, c, u.gn, u.cn, .slice none 0 0⟩ ((w2.setCell ⟨u.g, 0, none⟩ (.slice (some ⟨g, 0, none⟩) n c)).setCell ⟨u.g, 2, none⟩ (.slice none 0 0)) := by
  have h2 := h1.ext hb
  have hug : u.g < w1.heap.size := h1.lt (.inl rfl)
  have hgn : u.gn < w1.heap.size := h1.lt (.inr (.inr (.inl rfl)))
  refine ⟨⟨h1.ok.sync, h1.pos, h1.le, by simpa [DK.sync] using (h2.blk.set_ 0 (.slice (some ⟨g, 0, none⟩) n c)).set_ 2 (.slice none 0 0), ?_, ?_, World.ownsRow_nil _ _ _ _, ?_⟩, rfl, ?_, ?_⟩
  · exact own_far (own_far ho (by simp [Value.ownBlock]; omega) _) (by simp [Value.ownBlock]; omega) _
  · exact own_far (own_far h2.rn (by simpa [Value.ownBlock] using h1.ggn) _) (by simpa [Value.ownBlock] using h1.ggn) _
  · show g ≠ u.gn
    omega
  · have c2 : Chg u.fp w w2 := (c1.mono (fun k _ hk => Or.inl hk)).trans (Chg.of_below hb) (fun i hi hS => absurd hS (by have := c1.size; omega))
    exact (c2.setCell (p := ⟨u.g, 0, none⟩) (fun _ => .inl rfl) _).setCell (p := ⟨u.g, 2, none⟩) (fun _ => .inl rfl) _
  · have := c1.size
    rintro k (h | h | h | h)
    · exact .inl (.inl h)
    · simp only at h; right; omega
    · exact .inl (.inr (.inr (.inl h)))
    · simp [Value.ownBlock] at h
set_option maxHeartbeats 400000 in
theorem dsync_yes (w : World) (u : Dsk) (n : Nat) (d : DK.D) (h : DAt w u n d) (hs : DK.stopped d = false) :
    Calls Tryz.prog 85 #[.pointer (some ⟨u.g, 0, none⟩)] w (DSync w u n d) := by
  have HH := Lib.hid h
  have HS := Lib.hid hs
  clear h hs
  go_enter Tryz.func85, Tryz.ntmps85
  go_wp2_with fail
  refine (dstep_any w u n d HH.out).mono ?_
  rintro e w1 ⟨rfl, h1, c1⟩
  have H1 := Lib.hid h1
  have C1 := Lib.hid c1
  have b1 : w1.cell? ⟨u.g, 1, none⟩ = some (.slice (some ⟨u.gn, 0, none⟩) n u.cn) := h1.blk.cell 1
  have hle := h1.le
  have hps := h1.pos
  clear h1 c1
  rw [HS.out]
  go_wp2_with fail
  refine (pclone_any w1 u.gn n u.cn (DK.step d).now hps hle H1.out.rn).mono ?_
  rintro e w2 ⟨g, c, rfl, hg, ho, hb⟩
  have HG := Lib.hid hg
  have HO := Lib.hid ho
  have HB := Lib.hid hb
  have HD := Lib.hid (H1.out.ext hb)
  have b2 : w2.cell? ⟨u.g, 2, none⟩ = some u.wv := HD.out.blk.cell 2
  have b0 : w2.cell? ⟨u.g, 0, none⟩ = some (.slice (some ⟨u.gk, 0, none⟩) n u.ck) := HD.out.blk.cell 0
  have f0 := HD.out.blk.frozen 0
  have f2 := HD.out.blk.frozen 2
  clear hg ho hb
  go_wp2
  go_ret
  obtain ⟨r1, r2⟩ := sync_end H1.out C1.out HG.out HO.out HB.out
  refine ⟨_, by rw [HS.out]; rfl, by rw [HS.out]; exact r1, r2⟩
theorem dsync_any (w : World) (u : Dsk) (n : Nat) (d : DK.D) (h : DAt w u n d) :
    Calls Tryz.prog 85 #[.pointer (some ⟨u.g, 0, none⟩)] w (DSync w u n d) := by
  by_cases hs : DK.stopped d = true
  · exact dsync_no w u n d h hs
  · exact dsync_yes w u n d h (by simpa using hs)
end Go.Proofs.YthgniehfejklhaaGreat
