/-
  Walk of footbridgelaw2.DiskKeeps. Condition: the arguments lie in memory as 'DStepsAt' and 'IntsAt' say.
-/
import Derived.Test.YtnoekneeefpleaaDk8
import Derived.Test.YtnoekneeefpleaaArg2
import Derived.Lib.SlBytesConst
import Derived.Deep.CutBlock
import Derived.Deep.DeepCutAuto
import Derived.StillTailTactics
namespace Go.Proofs.Ytnoekneeefpleaa
open Go Go.RowKit
set_option linter.unusedVariables false

/-- A disk of one's own: it lies above B; below B nothing has turned since W. -/
def Fr (B : Nat) (W wr : World) (u : Dsk) (n : Nat) (d : DK.D) : Prop := DAt wr u n d ∧ Below B W wr ∧ (∀ k, u.fp k → B ≤ k) ∧ B ≤ wr.heap.size
theorem Fr.moved {B : Nat} {W wr w' : World} {u u' : Dsk} {n n' : Nat} {d d' : DK.D} (h : Fr B W wr u n d) (h' : DAt w' u' n' d') (hm : DMoved wr u u' w') : Fr B W w' u' n' d' := by
  obtain ⟨_, h2, h3, h4⟩ := h
  obtain ⟨_, m2, m3⟩ := hm
  refine ⟨h', h2.trans (m2.below h4 (fun k _ hk => h3 k hk)), fun k hk => ?_, Nat.le_trans h4 m2.size⟩
  rcases m3 k hk with h | h
  · exact h3 k h
  · omega
theorem Fr.ext {B : Nat} {W wr w' : World} {u : Dsk} {n : Nat} {d : DK.D} (h : Fr B W wr u n d) (hb : Below wr.heap.size wr w') : Fr B W w' u n d :=
  ⟨h.1.ext hb, h.2.1.trans (Below.mono hb h.2.2.2), h.2.2.1, Nat.le_trans h.2.2.2 hb.size⟩
/-- Another disk of one's own beside it is as it was. -/
theorem Blk.moved {wr w' : World} {u u' : Dsk} {g : Nat} {t : TypeId} {cs : Array Value} (h : Blk wr g t cs) (hm : DMoved wr u u' w') (hn : ¬ u.fp g) : Blk w' g t cs := h.chg hm.2.1 hn

theorem write_fine {n : Nat} {d : DK.D} {i : Nat} {b : List Int} (hi : i < n) (hb : b.length ≤ 32) (hs : DK.stopped d = false) : wrErr n d i b = none ∧ wrTo n d i b = DK.write (DK.step d) i b := by
  have h1 : ¬ ((i : Int) < 0 ∨ (n : Int) ≤ (i : Int)) := by omega
  have h2 : ¬ 32 < b.length := by omega
  exact ⟨by simp only [wrErr, if_neg h1, if_neg h2, hs]; rfl, by simp only [wrTo, if_neg h1, if_neg h2, hs]; rfl⟩
/-- A disk that never stops. -/
def Free (d : DK.D) : Prop := d.left = -1 ∧ d.down = false
theorem Free.stopped {d : DK.D} (h : Free d) : DK.stopped d = false := by simp [DK.stopped, h.1, h.2]
theorem Free.step {d : DK.D} (h : Free d) : DK.step d = d := by
  obtain ⟨a, b, c, l, e⟩ := d
  obtain ⟨h1, h2⟩ := h
  simp only at h1 h2
  subst h1; subst h2
  simp [DK.step, DK.stopped]
  decide
theorem Free.wrTo {n : Nat} {d : DK.D} (h : Free d) (i : Int) (b : List Int) : Free (wrTo n d i b) ∧ (wrTo n d i b).ws.length ≤ d.ws.length + 1 ∧ (wrTo n d i b).kept = d.kept := by
  unfold Go.Proofs.Ytnoekneeefpleaa.wrTo
  split
  · exact ⟨h, by omega, rfl⟩
  split
  · exact ⟨h, by omega, rfl⟩
  rw [h.stopped, h.step]
  exact ⟨h, by simp [DK.write], rfl⟩

theorem BytesAt.lt {w : World} {a : Option Addr} {xs : List Int} (h : BytesAt w a xs) (hn : xs ≠ []) {x : Addr} (hx : a = some x) : x.block < w.heap.size := by
  rcases h with h | ⟨b, off, h, hl, _⟩
  · exact absurd h hn
  · rw [hx] at h; injection h with h; subst h; exact hl
theorem bytes_hi (w : World) (H : Nat) (hH : w.heap.size = H) (t : TypeId) (fz : Nat × Nat) : BytesAt (w.alloc (.cells #[.int .u8 104, .int .u8 105] t fz)) (some ⟨H, 0, none⟩) [104, 105] := by
  subst hH
  refine .inr ⟨_, 0, rfl, by simp, fun i v hv => ?_⟩
  match i, hv with
  | 0, hv => rw [cell_of_row _ _ _ _ _ _ (heap_alloc_new w _)]; simp at hv; subst hv; rfl
  | 1, hv => rw [cell_of_row _ _ _ _ _ _ (heap_alloc_new w _)]; simp at hv; subst hv; rfl
/-- Pages as strings, in a block of six. -/
def strV (ps : List DK.Pg) (j : Nat) : Value := .string (strOfNums (ps.getD j []))
def wantV (ps : List DK.Pg) (i : Nat) : List Value := (List.range 6).map fun j => if j < i then strV ps j else .string ⟨#[]⟩
theorem wantV_get {ps : List DK.Pg} {i j : Nat} (hj : j < 6) : (wantV ps i)[j]? = some (if j < i then strV ps j else .string ⟨#[]⟩) := by simp [wantV, hj]
theorem wantV_next {ps : List DK.Pg} {i : Nat} (hi : i < 6) : (wantV ps i).toArray.setIfInBounds i (strV ps i) = (wantV ps (i + 1)).toArray := by
  rw [List.setIfInBounds_toArray]
  congr 1
  apply List.ext_getElem?
  intro j
  by_cases hj : j < 6
  · rw [List.getElem?_set]
    split
    · rename_i e; subst e; rw [if_pos (by simpa [wantV] using hj), wantV_get hj, if_pos (by omega)]
    · rw [wantV_get hj, wantV_get hj]; congr 1
      by_cases c : j < i
      · rw [if_pos c, if_pos (by omega)]
      · rw [if_neg c, if_neg (by omega)]
  · rw [List.getElem?_eq_none (by simp [wantV]; omega), List.getElem?_eq_none (by simp [wantV]; omega)]
theorem wantV_set {ps : List DK.Pg} {i : Nat} {p : DK.Pg} (hp : ps.length = 6) : (wantV ps 6).toArray.setIfInBounds i (.string (strOfNums p)) = (wantV (ps.set i p) 6).toArray := by
  rw [List.setIfInBounds_toArray]
  congr 1
  apply List.ext_getElem?
  intro j
  by_cases hj : j < 6
  · rw [List.getElem?_set]
    split
    · rename_i e; subst e; rw [if_pos (by simpa [wantV] using hj), wantV_get hj, if_pos hj]; simp [strV, hp, hj]
    · rename_i e; rw [wantV_get hj, wantV_get hj, if_pos hj, if_pos hj]; simp [strV, e]
  · rw [List.getElem?_eq_none (by simp [wantV]; omega), List.getElem?_eq_none (by simp [wantV]; omega)]
theorem wantV_size (ps : List DK.Pg) (i : Nat) : (wantV ps i).length = 6 := by simp [wantV]
/-- What the law holds of its disk, round by round. -/
def DkR1 (W : World) (G k : Nat) (wr : World) : Prop := ∃ u d, Fr W.heap.size W wr u 6 d ∧ u.g = G ∧ Free d ∧ d.ws.length ≤ k
def DkR2 (W : World) (G gw i : Nat) (wr : World) : Prop := ∃ u d, Fr W.heap.size W wr u 6 d ∧ u.g = G ∧ Free d ∧ d.ws = [] ∧ d.kept = d.now ∧ Blk wr gw 56 (wantV d.now i).toArray ∧ ¬ u.fp gw ∧ W.heap.size ≤ gw
def DkR3 (W : World) (G gw : Nat) (xs : List Int) (i k : Nat) (wr : World) : Prop := ∃ u d, Fr W.heap.size W wr u 6 d ∧ u.g = G ∧ Free d ∧ d.ws.length = k ∧ k ≤ i ∧ Blk wr gw 56 (wantV (DK.lay xs 0 d.ws d.kept) 6).toArray ∧ ¬ u.fp gw ∧ W.heap.size ≤ gw
def DkR4 (W : World) (G gw : Nat) (wr : World) : Prop := ∃ u d, Fr W.heap.size W wr u 6 d ∧ u.g = G ∧ Free d ∧ Blk wr gw 56 (wantV d.now 6).toArray ∧ ¬ u.fp gw ∧ W.heap.size ≤ gw
/-- The disk's doings where it never stops, by the place of its struct. -/
theorem dsync_free (w : World) (u : Dsk) (n G : Nat) (d : DK.D) (h : DAt w u n d) (hg : u.g = G) (hfr : Free d) :
    Calls Try.prog 23 #[.pointer (some ⟨G, 0, none⟩)] w fun e w' => ∃ u' : Dsk, e = .returned .nilIface ∧ DAt w' u' n (DK.sync d) ∧ DMoved w u u' w' := by
  subst hg
  refine (dsync_any w u n d h).mono ?_
  rintro e w' ⟨u', he, h1, h2⟩
  rw [hfr.stopped] at he h1
  rw [hfr.step] at h1
  exact ⟨u', he, h1, h2⟩
theorem dread_at (w : World) (u : Dsk) (n G : Nat) (d : DK.D) (h : DAt w u n d) (hg : u.g = G) (i : Nat) (hi : i < n) :
    Calls Try.prog 22 #[.pointer (some ⟨G, 0, none⟩), .int .i64 i] w (DRead w (d.now.getD i [])) := by
  subst hg
  exact dread_yes w u n d h i _ (by rw [List.getD_eq_getElem?_getD, List.getElem?_eq_getElem (by rw [h.ok.ln]; exact hi)]; rfl)
theorem dcrash_at (w : World) (u : Dsk) (n G : Nat) (d : DK.D) (h : DAt w u n d) (hg : u.g = G) (A : Option Addr) (m c : Nat) (keep : List Int) (hk : IntsAt w A keep) (hm : keep.length = m) (hmm : m ≤ maxLen) (hA : keep ≠ [] → ∀ x, A = some x → ¬ u.fp x.block) :
    Calls Try.prog 21 #[.pointer (some ⟨G, 0, none⟩), .slice A m c] w (DCrash w u n d keep) := by
  subst hg
  exact dcrash_any w u n d h A m c keep hk hm hmm hA
theorem DkR1.two {W wr w' : World} {G : Nat} {u u' : Dsk} {d : DK.D} (h : Fr W.heap.size W wr u 6 d) (hg : u.g = G) (hfr : Free d) (h1 : DAt w' u' 6 (DK.sync d)) (hm : DMoved wr u u' w') :
    DkR2 W G w'.heap.size 0 (w'.alloc (.cells #[.string ⟨#[]⟩, .string ⟨#[]⟩, .string ⟨#[]⟩, .string ⟨#[]⟩, .string ⟨#[]⟩, .string ⟨#[]⟩] 56)) := by
  have h2 := h.moved h1 hm
  refine ⟨u', _, h2.ext ((Below.refl _ _).alloc (Nat.le_refl _) _), hm.1.trans hg, hfr, rfl, rfl, Blk.new _ _ _, fun hf => ?_, h2.2.2.2⟩
  have := h2.1.lt hf
  omega
theorem DkR2.next {W wr w' : World} {G gw i : Nat} {u : Dsk} {d : DK.D} (hi : i < 6) (h : Fr W.heap.size W wr u 6 d) (hg : u.g = G) (hfr : Free d) (hw : d.ws = []) (hk : d.kept = d.now) (hb : Blk wr gw 56 (wantV d.now i).toArray) (hn : ¬ u.fp gw) (hl : W.heap.size ≤ gw) (hx : Below wr.heap.size wr w') :
    DkR2 W G gw (i + 1) (w'.setCell ⟨gw, i, none⟩ (strV d.now i)) := by
  have h2 := h.ext hx
  have hc : Chg (fun k => k = gw) w' (w'.setCell ⟨gw, i, none⟩ (strV d.now i)) := chg_cell _ _ _ _
  refine ⟨u, d, ⟨h2.1.chg hc (fun k hk e => hn (e ▸ hk)), h2.2.1.setCell hl _, h2.2.2.1, by simpa using h2.2.2.2⟩, hg, hfr, hw, hk, ?_, hn, hl⟩
  have := (hb.chg (Chg.of_below hx) (by have := hb.lt; omega)).set_ i (strV d.now i)
  rwa [wantV_next hi] at this
theorem wr_none {d : DK.D} {n : Int} {b : List Int} (hfr : Free d) (h : wrErr 6 d n b = none) : 0 ≤ n ∧ n < 6 ∧ b.length ≤ 32 ∧ wrTo 6 d n b = DK.write d n.toNat b := by
  unfold wrErr at h
  split at h
  · cases h
  rename_i h1
  split at h
  · cases h
  rename_i h2
  have h3 : ¬ (n < 0 ∨ (6 : Int) ≤ n) := h1
  refine ⟨by omega, by omega, by omega, ?_⟩
  unfold wrTo
  rw [if_neg h1, if_neg h2, hfr.stopped, hfr.step]; rfl
theorem wr_some {d : DK.D} {n x : Int} {b : List Int} (hfr : Free d) (h : wrErr 6 d n b = some x) : wrTo 6 d n b = d := by
  unfold wrErr at h
  unfold wrTo
  split at h
  · rw [if_pos (by assumption)]
  rename_i h1
  rw [if_neg h1]
  split at h
  · rw [if_pos (by assumption)]
  · rw [hfr.stopped] at h; cases h
section
variable {W wr w' : World} {G gw i k : Nat} {u u' : Dsk} {d : DK.D} {xs : List Int}
theorem DkR3.skip {d' : DK.D} (h : Fr W.heap.size W wr u 6 d) (hg : u.g = G) (hfr : Free d) (hk : d.ws.length = k) (hki : k ≤ i) (hb : Blk wr gw 56 (wantV (DK.lay xs 0 d.ws d.kept) 6).toArray) (hn : ¬ u.fp gw) (hl : W.heap.size ≤ gw)
    (h1 : DAt w' u' 6 d') (hm : DMoved wr u u' w') (he : d' = d) : DkR3 W G gw xs (i + 1) k w' := by
  subst he
  refine ⟨u', d', h.moved h1 hm, hm.1.trans hg, hfr, hk, by omega, hb.moved hm hn, fun hf => ?_, hl⟩
  rcases hm.2.2 gw hf with h | h
  · exact hn h
  · have := hb.lt; omega
/-- Behind a write, ahead of what is noted of it. -/
def DkR3m (W : World) (G gw : Nat) (xs : List Int) (i k j : Nat) (p : DK.Pg) (ks : List DK.Pg) (wr : World) : Prop :=
  ∃ u d, Fr W.heap.size W wr u 6 d ∧ u.g = G ∧ Free d ∧ d.ws.length = k + 1 ∧ k ≤ i ∧ j < 6 ∧ d.now.getD j [] = p ∧ ks.length = 6 ∧ DK.lay xs 0 d.ws d.kept = (if decide ((k : Int) ∈ xs) = true then ks.set j p else ks) ∧ Blk wr gw 56 (wantV ks 6).toArray ∧ ¬ u.fp gw ∧ W.heap.size ≤ gw
theorem DkR3.wrote {d' : DK.D} {j : Nat} {b : List Int} (h : Fr W.heap.size W wr u 6 d) (hg : u.g = G) (hfr : Free d) (hk : d.ws.length = k) (hki : k ≤ i) (hb : Blk wr gw 56 (wantV (DK.lay xs 0 d.ws d.kept) 6).toArray) (hn : ¬ u.fp gw) (hl : W.heap.size ≤ gw)
    (h1 : DAt w' u' 6 d') (hm : DMoved wr u u' w') (he : d' = DK.write d j b) (hj : j < 6) : DkR3m W G gw xs i k j (DK.put b) (DK.lay xs 0 d.ws d.kept) w' := by
  subst he
  have hok := h.1.ok
  refine ⟨u', _, h.moved h1 hm, hm.1.trans hg, hfr, by simp [DK.write, hk], hki, hj, by simp [DK.write, hok.ln, hj], (DK.lay_ok xs d.ws 0 d.kept hok.wp hok.lk hok.kp).1, ?_, hb.moved hm hn, fun hf => ?_, hl⟩
  · rw [DK.write, DK.lay_snoc, Nat.zero_add, hk]
  · rcases hm.2.2 gw hf with h | h
    · exact hn h
    · have := hb.lt; omega
theorem DkR3m.no {j : Nat} {p : DK.Pg} {ks : List DK.Pg} (h : DkR3m W G gw xs i k j p ks wr) (hx : decide ((k : Int) ∈ xs) = false) : DkR3 W G gw xs (i + 1) (k + 1) wr := by
  obtain ⟨u, d, a1, a2, a3, a4, a5, a6, a7, a8, a9, b1, b2, b3⟩ := h
  rw [hx, if_neg (by simp)] at a9
  exact ⟨u, d, a1, a2, a3, a4, by omega, by rw [a9]; exact b1, b2, b3⟩
theorem DkR3m.yes {j : Nat} {p : DK.Pg} {ks : List DK.Pg} (h : DkR3m W G gw xs i k j p ks wr) (hx : decide ((k : Int) ∈ xs) = true) (hb : Below wr.heap.size wr w') : DkR3 W G gw xs (i + 1) (k + 1) (w'.setCell ⟨gw, j, none⟩ (.string (strOfNums p))) := by
  obtain ⟨u, d, a1, a2, a3, a4, a5, a6, a7, a8, a9, b1, b2, b3⟩ := h
  rw [if_pos hx] at a9
  have h2 := a1.ext hb
  have hc : Chg (fun k => k = gw) w' (w'.setCell ⟨gw, j, none⟩ (.string (strOfNums p))) := chg_cell _ _ _ _
  refine ⟨u, d, ⟨h2.1.chg hc (fun k hk e => b2 (e ▸ hk)), h2.2.1.setCell b3 _, h2.2.2.1, by simpa using h2.2.2.2⟩, a2, a3, a4, by omega, ?_, b2, b3⟩
  have := (b1.chg (Chg.of_below hb) (by have := b1.lt; omega)).set_ j (.string (strOfNums p))
  rwa [wantV_set a8, ← a9] at this
end
theorem dwrite_at (w : World) (u : Dsk) (n G : Nat) (d : DK.D) (h : DAt w u n d) (hg : u.g = G) (i : Int) (A : Option Addr) (m c : Nat) (b : List Int) (hm : b.length = m) (hws : d.ws.length ≤ 10000)
    (hA : BytesAt w A b) (hAb : b ≠ [] → ∀ x, A = some x → x.block ≠ u.g) :
    Calls Try.prog 20 #[.pointer (some ⟨G, 0, none⟩), .int .i64 i, .slice A m c] w (DWrite w u n d i b) := by
  subst hg
  exact dwrite_any w u n d h i A m c b hm hws hA hAb
theorem DkR3.crash {W wr w' : World} {G gw : Nat} {u u' : Dsk} {d : DK.D} {xs : List Int} (h : Fr W.heap.size W wr u 6 d) (hg : u.g = G) (hb : Blk wr gw 56 (wantV (DK.lay xs 0 d.ws d.kept) 6).toArray) (hn : ¬ u.fp gw) (hl : W.heap.size ≤ gw)
    (h1 : DAt w' u' 6 (DK.crash d xs)) (hm : DMoved wr u u' w') : DkR4 W G gw w' := by
  refine ⟨u', _, h.moved h1 hm, hm.1.trans hg, ⟨rfl, rfl⟩, hb.moved hm hn, fun hf => ?_, hl⟩
  rcases hm.2.2 gw hf with h | h
  · exact hn h
  · have := hb.lt; omega
theorem DkR4.ext {W wr w' : World} {G gw : Nat} (h : DkR4 W G gw wr) (hb : Below wr.heap.size wr w') : DkR4 W G gw w' := by
  obtain ⟨u, d, h1, h2, h3, h4, h5, h6⟩ := h
  exact ⟨u, d, h1.ext hb, h2, h3, h4.chg (Chg.of_below hb) (by have := h4.lt; omega), h5, h6⟩
/-- The law's answer. -/
def DkPost (W : World) (e : Ending) (w' : World) : Prop := e = .returned (.bool true) ∧ Below W.heap.size W w'
set_option maxHeartbeats 1000000 in
set_option maxRecDepth 100000 in
theorem dk_walk (a0 : Option Addr) (l0 c0 : Nat) (s0 : Nat → DSt) (a1 : Option Addr) (l1 c1 : Nat) (s1 : Nat → DSt) (a2 : Option Addr) (l2 c2 : Nat) (xs : List Int) (W : World)
    (h0 : DStepsAt W a0 l0 s0 ∧ l0 ≤ c0 ∧ c0 ≤ maxLen) (h1 : DStepsAt W a1 l1 s1 ∧ l1 ≤ c1 ∧ c1 ≤ maxLen) (h2 : IntsAt W a2 xs ∧ xs.length = l2 ∧ l2 ≤ c2 ∧ c2 ≤ maxLen) :
    Calls Try.prog 6 #[.slice a0 l0 c0, .slice a1 l1 c1, .slice a2 l2 c2] W (DkPost W) := by
  have H0 := Lib.hid h0
  have H1 := Lib.hid h1
  have H2 := Lib.hid h2
  clear h0 h1 h2
  have hcv := fun w => Lib.run_convert_bytes_const (P := Try.prog) w 48 5 #[.int .u8 104, .int .u8 105] 2 2 Try.underlying48 Try.underlying5
  go_enter Try.func6, Try.ntmps6
  go_wp2_with fail
  refine (dnew_yes W 1 (by decide) (by decide)).mono ?_
  rintro e w1 ⟨z, rfl, hz, hb, hf⟩
  have Z1 : Hid (Fr W.heap.size W w1 z 1 (DK.new 1)) := ⟨hz, hb, hf, hb.size⟩
  clear hz hb hf
  go_wp2_with fail
  refine (dwrite_any _ z 1 (DK.new 1) (Z1.out.1.ext ((Below.refl _ _).alloc (Nat.le_refl _) _)) 0 (some ⟨w1.heap.size, 0, none⟩) 2 2 [104, 105] rfl (by simp [DK.new]) (bytes_hi w1 _ rfl _ _) (by rintro _ x hx; simp at hx; subst hx; have := Z1.out.1.lt (.inl rfl : z.fp z.g); simp; omega)).mono ?_
  rintro e w2 ⟨z2, rfl, hz, hm⟩
  obtain ⟨q1, q2⟩ := write_fine (d := DK.new 1) (n := 1) (i := 0) (b := [104, 105]) (by decide) (by decide) rfl
  have e1 : optErr (wrErr 1 (DK.new 1) 0 [104, 105]) = .nilIface := by rw [show ((0 : Int)) = ((0 : Nat) : Int) from rfl, q1]; rfl
  rw [e1]
  have Z2 : Hid (Fr W.heap.size W w2 z2 1 (wrTo 1 (DK.new 1) 0 [104, 105])) := (Fr.ext Z1.out ((Below.refl _ _).alloc (Nat.le_refl _) _)).moved hz hm
  have g2 : z.g = z2.g := hm.1.symm
  rw [g2]
  clear hz hm q1 q2 e1 g2
  go_wp2_with fail
  refine (dcrash_any w2 z2 1 _ Z2.out.1 none 0 0 [] (.inl rfl) rfl (by unfold maxLen; omega) (by simp)).mono ?_
  rintro e w3 ⟨z3, rfl, hz, hm⟩
  have Z3 : Hid (Fr W.heap.size W w3 z3 1 _) := Z2.out.moved hz hm
  have g3 : z2.g = z3.g := hm.1.symm
  rw [g3]
  clear hz hm g3
  go_wp2_with fail
  refine (dread_yes w3 z3 1 _ Z3.out.1 0 DK.zero rfl).mono ?_
  rintro e w4 ⟨fg, fc, rfl, hfg, hfo, hb⟩
  have Z4 := Lib.hid (Fr.ext Z3.out hb)
  have F0 : w4.cell? ⟨fg, 0, none⟩ = some (.int .u8 0) := by rw [hfo.cellAt 0 (by decide)]; rfl
  clear hfg hfo hb
  go_wp2_with fail
  refine (dnew_yes w4 6 (by decide) (by decide)).mono ?_
  rintro e w5 ⟨u, rfl, hu, hb, hf⟩
  have U0 : Hid (Fr W.heap.size W w5 u 6 (DK.new 6)) := ⟨hu, Z4.out.2.1.trans (Below.mono hb Z4.out.2.2.2), fun k hk => Nat.le_trans Z4.out.2.2.2 (hf k hk), Nat.le_trans Z4.out.2.2.2 hb.size⟩
  clear hu hb hf
  obtain ⟨G, hG⟩ : ∃ G, G = u.g := ⟨_, rfl⟩
  rw [← hG]
  have HG := Lib.hid hG
  clear hG
  have hl0 := H0.out.2
  have hl1 := H1.out.2
  unfold maxLen at hl0 hl1
  clear F0 Z1 Z2 Z3 Z4
  go_upto_block 0 with fail
  go_cut [12] (fun s12 wx => DkR1 W G 30 wx)
  case first =>
    go_wp2_with fail
    go_loopw [12] (fun v wr => ∃ k : Nat, k ≤ 30 ∧ k ≤ l0 ∧ v = .int .i64 k ∧ DkR1 W G k wr) (fun v _ => l0 - (intOf v).toNat)
    case atStart => exact ⟨0, by omega, by omega, rfl, u, _, U0.out, HG.out.symm, ⟨rfl, rfl⟩, by simp [DK.new]⟩
    case round =>
      obtain ⟨k, hk, hkl, rfl, hR⟩ := hrel
      have HR := Lib.hid hR
      clear hR
      by_cases c0 : k < l0 ∧ k < 30
      · obtain ⟨hlt, h30⟩ := c0
        obtain ⟨u', d, hF, hg', hfr, hwl⟩ := HR.out
        rcases H0.out.1 with h0 | ⟨b, off, rfl, hbl, hst⟩
        · omega
        obtain ⟨t1, t2, t3, t4, t5⟩ := hst k hlt
        have hbw := hF.2.1
        have t1' := (hbw.cell (p := ⟨b, off + k * 5 + 1, none⟩) hbl).trans t1
        have t2' := (hbw.cell (p := ⟨b, off + k * 5 + 2, none⟩) hbl).trans t2
        subst hg'
        have HF := Lib.hid hF
        have HW := Lib.hid hwl
        have T4 := Lib.hid t4
        have z0 : (0 : Int) ≤ (k : Int) := by omega
        have z1 : (k : Int) < (l0 : Int) := by omega
        clear hF hst t1 t2 hbw hwl t4
        go_wp2
        go_still_tail 11, (by kernel_rfl)
        go_wp2_with fail
        refine (dwrite_any _ u' 6 d (HF.out.1.ext (Below.refl _ _).drew) _ _ _ _ (s0 k).b T4.out (by have := HW.out; omega) ((t3.ext HF.out.2.1).ext (Below.refl _ _).drew) (by rintro hne x hx; have h1 := BytesAt.lt t3 hne hx; have h2 := HF.out.2.2.1 u'.g (.inl rfl); omega)).mono ?_
        rintro e w6 ⟨u6, rfl, hu6, hm⟩
        have HN : Hid (DkR1 W u'.g (k + 1) w6) := ⟨u6, _, (Fr.ext HF.out (Below.refl _ _).drew).moved hu6 hm, hm.1, (hfr.wrTo _ _).1, by have := (hfr.wrTo (n := 6) (s0 k).n (s0 k).b).2.1; have := HW.out; omega⟩
        clear hu6 hm
        go_wp2
        go_roundw
        case rel => exact ⟨k + 1, by omega, by omega, by go_num, HN.out⟩
        case measure => simp [intOf]; omega
      · have HM : Hid (DkR1 W G 30 wr) := by obtain ⟨u', d, r1, r2, r3, r4⟩ := HR.out; exact ⟨u', d, r1, r2, r3, by omega⟩
        have hcase : (k < l0 ∧ ¬ k < 30) ∨ ¬ k < l0 := by omega
        clear c0 HR
        rcases hcase with ⟨c1, c2⟩ | c1
        all_goals
          go_wp2
          go_meet
          exact HM.out
  case rest =>
    have HC := Lib.hid hcut
    clear hcut
    obtain ⟨u1, d1, hF, hg, hfr, hwl⟩ := HC.out
    have HF := Lib.hid hF
    have HGG := Lib.hid hg
    clear hF hwl hg
    go_wp2_with fail
    refine (dsync_free _ u1 6 G d1 HF.out.1 HGG.out hfr).mono ?_
    rintro e w2 ⟨u2, rfl, hu2, hm2⟩
    have HR2 : Hid (DkR2 W G w2.heap.size 0 _) := DkR1.two HF.out HGG.out hfr hu2 hm2
    clear hu2 hm2 HF HGG hfr HC
    go_wp2
    obtain ⟨gw, hgw⟩ : ∃ gw, gw = w2.heap.size := ⟨_, rfl⟩
    rw [← hgw]
    rw [← hgw] at HR2
    have HGW := Lib.hid hgw
    clear hgw
    go_loopw [14] (fun v wr => ∃ i : Nat, i ≤ 6 ∧ v = .int .i64 i ∧ DkR2 W G gw i wr) (fun v _ => 6 - (intOf v).toNat)
    case atStart => exact ⟨0, by omega, rfl, HR2.out⟩
    case round =>
      obtain ⟨i, hi6, rfl, hR⟩ := hrel
      have HR := Lib.hid hR
      clear hR HR2
      by_cases hi : i < 6
      · obtain ⟨u1, d1, hF, hg, hfr, hws, hkn, hbk, hnf, hle⟩ := HR.out
        have HF := Lib.hid hF
        have HGG := Lib.hid hg
        have HWS := Lib.hid hws
        have HKN := Lib.hid hkn
        have HBK := Lib.hid hbk
        have HNF := Lib.hid hnf
        clear hF hg hws hkn hbk hnf
        go_wp2_with fail
        refine (dread_at _ u1 6 G d1 HF.out.1 HGG.out i hi).mono ?_
        rintro e w3 ⟨bg, bc, rfl, hbl, hown, hbel⟩
        have hcs := run_own_string hown
        have hfz := (HBK.out.chg (Chg.of_below hbel) (by have := HBK.out.lt; omega)).frozen i
        have hcl : w3.cell? ⟨gw, i, none⟩ = some (.string ⟨#[]⟩) := by rw [(HBK.out.chg (Chg.of_below hbel) (by have := HBK.out.lt; omega)).cell, List.getElem?_toArray, wantV_get hi, if_neg (by omega)]
        have HN : Hid (DkR2 W G gw (i + 1) (w3.setCell ⟨gw, i, none⟩ (strV d1.now i))) := DkR2.next hi HF.out HGG.out hfr HWS.out HKN.out HBK.out HNF.out hle hbel
        clear hbel hbl hown
        go_wp2
        go_roundw
        case rel => exact ⟨i + 1, by omega, by go_num, HN.out⟩
        case measure => simp [intOf]; omega
      · have h6 : i = 6 := by omega
        subst h6
        clear hi hi6
        rw [show ((6 : Nat) : Int) = 6 from rfl]
        have H3 : Hid (DkR3 W G gw xs 0 0 wr) := by
          obtain ⟨u1, d1, r1, r2, r3, r4, r5, r6, r7, r8⟩ := HR.out
          exact ⟨u1, d1, r1, r2, r3, by rw [r4]; rfl, Nat.le_refl _, by rw [r4, r5]; exact r6, r7, r8⟩
        clear HR
        go_upto_block 4 with fail
        go_cut [18, 17] (fun s18 s17 wx => ∃ i k : Nat, i ≤ 30 ∧ DkR3 W G gw xs i k wx)
        case first =>
          go_wp2_with fail
          go_loopw [18, 17] (fun vi vk wr => ∃ i k : Nat, i ≤ 30 ∧ i ≤ l1 ∧ k ≤ i ∧ vi = .int .i64 i ∧ vk = .int .i64 k ∧ DkR3 W G gw xs i k wr) (fun vi _ _ => l1 - (intOf vi).toNat)
          case atStart => exact ⟨0, 0, by omega, by omega, by omega, rfl, rfl, H3.out⟩
          case round =>
            obtain ⟨i, k, hi30, hil, hki, rfl, rfl, hR⟩ := hrel
            have HR := Lib.hid hR
            clear hR H3
            by_cases c0 : i < l1 ∧ i < 30
            · obtain ⟨hlt, h30⟩ := c0
              obtain ⟨u1, d1, hF, hg, hfr, hwl, hki', hbk, hnf, hle⟩ := HR.out
              rcases H1.out.1 with h0 | ⟨b, off, rfl, hbl, hst⟩
              · omega
              obtain ⟨t1, t2, t3, t4, t5⟩ := hst i hlt
              obtain ⟨nn, hnn⟩ : ∃ nn, nn = (s1 i).n := ⟨_, rfl⟩
              rw [← hnn] at t1
              have HNN := Lib.hid hnn
              have hcl : ∀ (u : Dsk) (d : DK.D) (w : World), Fr W.heap.size W w u 6 d → w.cell? ⟨b, off + i * 5 + 1, none⟩ = some (.int .i64 nn) := fun _ _ _ h => (h.2.1.cell (p := ⟨b, off + i * 5 + 1, none⟩) hbl).trans t1
              have HCL := Lib.hid hcl
              have t1' := hcl _ _ _ hF
              have t2' := (hF.2.1.cell (p := ⟨b, off + i * 5 + 2, none⟩) hbl).trans t2
              have HF := Lib.hid hF
              have HGG := Lib.hid hg
              have HW := Lib.hid hwl
              have T4 := Lib.hid t4
              have HBK := Lib.hid hbk
              have HNF := Lib.hid hnf
              have z0 : (0 : Int) ≤ (i : Int) := by omega
              have z1 : (i : Int) < (l1 : Int) := by omega
              clear hF hst t1 t2 hwl t4 hg hbk hnf hnn hcl
              go_wp2
              go_still_tail 11, (by kernel_rfl)
              go_wp2_with fail
              refine (dwrite_at _ u1 6 G d1 (HF.out.1.ext (Below.refl _ _).drew) HGG.out _ _ _ _ (s1 i).b T4.out (by have := HW.out; omega) ((t3.ext HF.out.2.1).ext (Below.refl _ _).drew) (by rintro hne x hx; have h1 := BytesAt.lt t3 hne hx; have h2 := HF.out.2.2.1 u1.g (.inl rfl); omega)).mono ?_
              rintro e w6 ⟨u6, rfl, hu6, hm⟩
              have HF' : Hid (Fr W.heap.size W wr.drew u1 6 d1) := Fr.ext HF.out (Below.refl _ _).drew
              have HBK' : Hid (Blk wr.drew gw 56 (wantV (DK.lay xs 0 d1.ws d1.kept) 6).toArray) := HBK.out
              cases hq : wrErr 6 d1 nn (s1 i).b with
              | some x =>
                have HN : Hid (DkR3 W G gw xs (i + 1) k w6) := DkR3.skip HF'.out HGG.out hfr HW.out hki' HBK'.out HNF.out hle hu6 hm (wr_some hfr hq)
                clear hu6 hm hq
                rw [show optErr (some x) = derrV x from rfl]
                go_wp2
                go_roundw
                case rel => exact ⟨i + 1, k, by omega, by omega, by omega, by go_num, rfl, HN.out⟩
                case measure => simp [intOf]; omega
              | none =>
                obtain ⟨q1, q2, q3, q4⟩ := wr_none hfr hq
                obtain ⟨j, hj⟩ : ∃ j : Nat, nn = (j : Int) := ⟨nn.toNat, by omega⟩
                subst hj
                have hj6 : j < 6 := by omega
                have HN : Hid (DkR3m W G gw xs i k j (DK.put (s1 i).b) (DK.lay xs 0 d1.ws d1.kept) w6) := DkR3.wrote HF'.out HGG.out hfr HW.out hki' HBK'.out HNF.out hle hu6 hm (by rw [q4]; rfl) hj6
                have t1w := HCL.out _ _ _ (HF'.out.moved hu6 hm)
                have t1e := fun (w' : World) (h : Below w6.heap.size w6 w') => HCL.out _ _ _ ((HF'.out.moved hu6 hm).ext h)
                have T1E := Lib.hid t1e
                have HI : Hid (IntsAt w6 a2 xs) := H2.out.1.ext (Below.mono (HF'.out.moved hu6 hm).2.1 (Nat.le_refl _))
                clear hu6 hm hq q1 q2 q3 q4 HF HF' HBK HBK' HNF HCL t1' t2' t1e T4 HR
                rw [show optErr none = .nilIface from rfl]
                have hlen := H2.out.2.1
                have hl2 := H2.out.2.2
                unfold maxLen at hl2
                have HLEN := Lib.hid hlen
                clear hlen
                go_wp2_with fail
                refine (has_any w6 a2 l2 c2 xs k HI.out HLEN.out (by omega)).mono ?_
                rintro e w7 ⟨rfl, rfl⟩
                by_cases hx : decide ((k : Int) ∈ xs) = true
                · rw [hx]
                  have HX := Lib.hid hx
                  obtain ⟨uu, dd, a1, a2, a3, a4, a5, a6, a7, a8, a9, b1, b2, b3⟩ := HN.out
                  have A1 := Lib.hid a1
                  have A2 := Lib.hid a2
                  have A7 := Lib.hid a7
                  have B1 := Lib.hid b1
                  clear hx a1 a2 a3 a4 a7 a8 a9 b1 b2 b3
                  go_wp2_with fail
                  refine (dread_at _ uu 6 G dd A1.out.1 A2.out j hj6).mono ?_
                  rintro e w7 ⟨bg, bc, rfl, hbl, hown, hbel⟩
                  rw [A7.out] at hown
                  have hcs := run_own_string (own_drew hown)
                  have hbk' := B1.out.chg (Chg.of_below hbel) (by have := B1.out.lt; omega)
                  have hfz := hbk'.frozen j
                  have hgl := hbk'.lt
                  have hcl : w7.cell? ⟨gw, j, none⟩ = some (strV (DK.lay xs 0 d1.ws d1.kept) j) := by rw [hbk'.cell, List.getElem?_toArray, wantV_get hj6, if_pos hj6]
                  unfold strV at hcl
                  have t1x := T1E.out _ hbel
                  have HZ : Hid (DkR3 W G gw xs (i + 1) (k + 1) (w7.drew.setCell ⟨gw, j, none⟩ (.string (strOfNums (DK.put (s1 i).b))))) := HN.out.yes HX.out hbel.drew
                  clear hbel hbl hown t1w hbk'
                  go_wp2
                  go_region
                  all_goals go_wp2
                  go_roundw
                  case rel => exact ⟨i + 1, k + 1, by omega, by omega, by omega, by go_num, by go_num, by have := HZ.out; rwa [World.setCell_drew] at this⟩
                  case measure => simp [intOf]; omega
                · have hx' : decide ((k : Int) ∈ xs) = false := by simpa using hx
                  have HZ := Lib.hid (HN.out.no hx')
                  rw [hx']
                  clear hx hx' HN
                  go_wp2
                  go_roundw
                  case rel => exact ⟨i + 1, k + 1, by omega, by omega, by omega, by go_num, by go_num, HZ.out⟩
                  case measure => simp [intOf]; omega
            · have HM : Hid (∃ i k : Nat, i ≤ 30 ∧ DkR3 W G gw xs i k wr) := ⟨i, k, hi30, HR.out⟩
              have hcase : (i < l1 ∧ ¬ i < 30) ∨ ¬ i < l1 := by omega
              clear c0 HR
              rcases hcase with ⟨c1, c2⟩ | c1
              all_goals
                go_wp2
                go_meet
                exact HM.out
        case rest =>
          obtain ⟨i, k, hi30, uu, dd, a1, a2', a3, a4, a5, a6, a7, a8⟩ := hcut
          have A1 := Lib.hid a1
          have A2 := Lib.hid a2'
          have A6 := Lib.hid a6
          have A7 := Lib.hid a7
          have HI : Hid (IntsAt wc a2 xs) := H2.out.1.ext (Below.mono a1.2.1 (Nat.le_refl _))
          have HN : Hid (xs ≠ [] → ∀ x, a2 = some x → ¬ uu.fp x.block) := by
            intro hne x hx hf
            have h1 := a1.2.2.1 _ hf
            rcases H2.out.1 with h | ⟨b, off, h, hl, _⟩
            · exact hne h
            · rw [hx] at h; injection h with h; subst h
              simp only at h1
              omega
          have hlen := H2.out.2.1
          have HLEN := Lib.hid hlen
          have HLE := Lib.hid (show l2 ≤ maxLen from Nat.le_trans H2.out.2.2.1 H2.out.2.2.2)
          clear a1 a2' a4 a6 a7 hlen
          go_wp2_with fail
          refine (dcrash_at _ uu 6 G dd A1.out.1 A2.out a2 l2 c2 xs HI.out HLEN.out HLE.out HN.out).mono ?_
          rintro e w9 ⟨u9, rfl, hu9, hm9⟩
          have H4 : Hid (DkR4 W G gw w9) := DkR3.crash A1.out A2.out A6.out A7.out a8 hu9 hm9
          clear hu9 hm9 A1 A2 A6 A7 a8 HN HI HLEN HLE a3 a5 hi30
          go_wp2
          go_loopw [22] (fun v wr => ∃ i : Nat, i ≤ 6 ∧ v = .int .i64 i ∧ DkR4 W G gw wr) (fun v _ => 6 - (intOf v).toNat)
          case atStart => exact ⟨0, by omega, rfl, H4.out⟩
          case round =>
            obtain ⟨i, hi6, rfl, hR⟩ := hrel
            have HR := Lib.hid hR
            clear hR H4
            by_cases hi : i < 6
            · obtain ⟨u1, d1, hF, hg, hfr, hbk, hnf, hle⟩ := HR.out
              have HF := Lib.hid hF
              have HGG := Lib.hid hg
              have HBK := Lib.hid hbk
              clear hF hg hbk hnf hle
              go_wp2_with fail
              refine (dread_at _ u1 6 G d1 HF.out.1 HGG.out i hi).mono ?_
              rintro e w3 ⟨bg, bc, rfl, hbl, hown, hbel⟩
              have hcs := run_own_string (own_drew hown)
              have hcl : w3.cell? ⟨gw, i, none⟩ = some (.string (strOfNums (d1.now.getD i []))) := by rw [(HBK.out.chg (Chg.of_below hbel) (by have := HBK.out.lt; omega)).cell, List.getElem?_toArray, wantV_get hi, if_pos hi]; rfl
              have HN : Hid (DkR4 W G gw w3.drew) := HR.out.ext hbel.drew
              clear hbel hbl hown
              go_wp2
              go_region
              all_goals go_wp2
              go_roundw
              case rel => exact ⟨i + 1, by omega, by go_num, HN.out⟩
              case measure => simp [intOf]; omega
            · obtain ⟨u1, d1, hF, hg, hfr, hbk, hnf, hle⟩ := HR.out
              have HF := Lib.hid hF
              have HGG := Lib.hid hg
              clear hF hg hbk hnf hle HR
              go_wp2_with fail
              refine (dsync_free _ u1 6 G d1 HF.out.1 HGG.out hfr).mono ?_
              rintro e w2 ⟨u2, rfl, hu2, hm2⟩
              have HE : Hid (Below W.heap.size W w2) := (HF.out.moved hu2 hm2).2.1
              clear hu2 hm2
              go_wp2
              go_ret
              exact ⟨rfl, HE.out⟩
end Go.Proofs.Ytnoekneeefpleaa
