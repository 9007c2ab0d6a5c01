/-
  DiskPlays: the two disks beside each other, what each method leaves. Conditions: the disks lie as 'DpR' says; the arguments lie as they came in.
-/
import Derived.Test.YtenjblonepegfaaDoorRd5
import Derived.Test.YtenjblonepegfaaDoorRd7
import Derived.Test.YtenjblonepegfaaDoorTd2
import Derived.Test.YtenjblonepegfaaDoorArg4
import Derived.Test.YtenjblonepegfaaDoorSq9
namespace Go.Proofs.YtenjblonepegfaaDoor
open Go Go.RowKit
set_option linter.unusedVariables false

theorem own_blk3 {w : World} {base : Nat} {e : TypeId} {size n : Nat} {v : Value} {xs : List Value} (h : w.ownsRow base e size v n xs) {k : Nat} (hk : v.ownBlock = some k) : ∃ cs, Blk w k e cs := by
  rcases h.2 with ⟨rfl, _⟩ | ⟨g, cap, cur, rfl, _, hg, _⟩
  · simp [Value.ownBlock] at hk
  · simp [Value.ownBlock] at hk; subst hk; exact ⟨_, hg⟩
theorem DAt.typ {w : World} {u : Dsk} {n : Nat} {d : DK.D} (h : DAt w u n d) {k : Nat} (hk : u.fp k) : ∃ t cs, Blk w k t cs ∧ (t = 118 ∨ t = 124 ∨ t = 126) := by
  rcases hk with rfl | rfl | rfl | hk
  · exact ⟨_, _, h.blk, .inl rfl⟩
  · obtain ⟨cs, hb⟩ := own_blk3 (k := u.gk) h.rk (by simp [Value.ownBlock]); exact ⟨_, cs, hb, .inr (.inl rfl)⟩
  · obtain ⟨cs, hb⟩ := own_blk3 (k := u.gn) h.rn (by simp [Value.ownBlock]); exact ⟨_, cs, hb, .inr (.inl rfl)⟩
  · obtain ⟨cs, hb⟩ := own_blk3 h.rw hk; exact ⟨_, cs, hb, .inr (.inr rfl)⟩
theorem RAt.typ {w : World} {r : RD} {n : Nat} {d : DK.D} (h : RAt w r n d) {k : Nat} (hk : r.fp k) : ∃ t cs, Blk w k t cs ∧ (t = 46 ∨ t = 33 ∨ t = 122) := by
  rcases hk with rfl | rfl | rfl | hk
  · exact ⟨_, _, h.blk, .inl rfl⟩
  · obtain ⟨cs, hb⟩ := own_blk3 (k := r.gk) h.rk (by simp [Value.ownBlock]); exact ⟨_, cs, hb, .inr (.inl rfl)⟩
  · obtain ⟨cs, hb⟩ := own_blk3 (k := r.gn) h.rn (by simp [Value.ownBlock]); exact ⟨_, cs, hb, .inr (.inl rfl)⟩
  · obtain ⟨cs, hb⟩ := own_blk3 h.rw hk; exact ⟨_, cs, hb, .inr (.inr rfl)⟩
theorem blk_same {w : World} {k : Nat} {t t' : TypeId} {cs cs' : Array Value} (h : Blk w k t cs) (h' : Blk w k t' cs') : t = t' := by
  unfold Blk at h h'
  rw [h] at h'
  injection h' with h'
  injection h' with h1 h2
theorem apart {w : World} {u : Dsk} {r : RD} {n n' : Nat} {d d' : DK.D} (h : DAt w u n d) (h' : RAt w r n' d') {k : Nat} (hk : u.fp k) : ¬ r.fp k := fun hr => by
  obtain ⟨t, cs, hb, ht⟩ := h.typ hk
  obtain ⟨t', cs', hb', ht'⟩ := h'.typ hr
  have := blk_same hb hb'
  subst this
  rcases ht with rfl | rfl | rfl <;> rcases ht' with h | h | h <;> revert h <;> decide
theorem DAt.nopage {w : World} {u : Dsk} {n : Nat} {d : DK.D} (h : DAt w u n d) {k : Nat} (hk : u.fp k) : ∀ cs, ¬ Blk w k 5 cs := fun cs hb => by
  obtain ⟨t, cs', hb', ht⟩ := h.typ hk
  have := blk_same hb hb'
  subst this
  rcases ht with h | h | h <;> revert h <;> decide
theorem bytes_lt {w : World} {a : Option Addr} {xs : List Int} (h : BytesAt w a xs) (hn : xs ≠ []) {x : Addr} (hx : a = some x) : x.block < w.heap.size := by
  rcases h with h | ⟨b, off, h, hl, _⟩
  · exact absurd h hn
  · rw [hx] at h; injection h with h; subst h; exact hl
/-- The two disks, apart and new; the round's box, if there is one. -/
def DpR (W : World) (n : Nat) (du dr : DK.D) (gu gr : Nat) (B : Option (Nat × Array Value)) (w : World) : Prop :=
  ∃ (u : Dsk) (r : RD), u.g = gu ∧ r.g = gr ∧ DAt w u n du ∧ RAt w r n dr ∧ Below W.heap.size W w ∧ (∀ k, u.fp k → W.heap.size ≤ k) ∧ (∀ k, r.fp k → W.heap.size ≤ k) ∧ ∀ g cs, B = some (g, cs) → Blk w g 37 cs
section
variable {W w w' : World} {n gu gr : Nat} {du dr : DK.D} {B : Option (Nat × Array Value)}
theorem DpR.bel (h : DpR W n du dr gu gr B w) : Below W.heap.size W w := by obtain ⟨_, _, _, _, _, _, h, _⟩ := h; exact h
theorem DpR.box {g : Nat} {cs : Array Value} (h : DpR W n du dr gu gr (some (g, cs)) w) : Blk w g 37 cs := by obtain ⟨_, _, _, _, _, _, _, _, _, h⟩ := h; exact h g cs rfl
theorem DpR.boxed {g : Nat} {cs : Array Value} (h : DpR W n du dr gu gr B w) (hb : Blk w g 37 cs) : DpR W n du dr gu gr (some (g, cs)) w := by
  obtain ⟨u, r, e1, e2, h1, h2, h3, h4, h5, h6⟩ := h
  exact ⟨u, r, e1, e2, h1, h2, h3, h4, h5, fun g' cs' e => by injection e with e; injection e with e1 e2; subst e1; subst e2; exact hb⟩
theorem DpR.bare (h : DpR W n du dr gu gr B w) : DpR W n du dr gu gr none w := by
  obtain ⟨u, r, e1, e2, h1, h2, h3, h4, h5, h6⟩ := h
  exact ⟨u, r, e1, e2, h1, h2, h3, h4, h5, fun g' cs' e => by cases e⟩
theorem DpR.ext (h : DpR W n du dr gu gr B w) (hb : Below w.heap.size w w') : DpR W n du dr gu gr B w' := by
  obtain ⟨u, r, e1, e2, h1, h2, h3, h4, h5, h6⟩ := h
  exact ⟨u, r, e1, e2, h1.ext hb, h2.ext hb, h3.trans (hb.mono h3.size), h4, h5, fun g cs e => (h6 g cs e).chg (Chg.of_below hb) (by have := (h6 g cs e).lt; omega)⟩
theorem DpR.left_ (h : DpR W n du dr gu gr B w) : ∃ u : Dsk, u.g = gu ∧ DAt w u n du ∧ (∀ k, u.fp k → W.heap.size ≤ k) ∧ ∀ (u' : Dsk) (du' : DK.D) (w' : World), DAt w' u' n du' → DMoved w u u' w' → DpR W n du' dr gu gr B w' := by
  obtain ⟨u, r, e1, e2, h1, h2, h3, h4, h5, h6⟩ := h
  refine ⟨u, e1, h1, h4, fun u' du' w' hd hm => ⟨u', r, hm.1.trans e1, e2, hd, h2.chg hm.2.1 (fun k hk hu => apart h1 h2 hu hk) (fun k hk => h1.nopage hk), ?_, fun k hk => ?_, h5, fun g cs e => (h6 g cs e).chg hm.2.1 (fun hk => ?_)⟩⟩
  · exact ((Chg.of_below h3).trans hm.2.1 (fun k _ hk => h4 k hk)).below (Nat.le_refl _) (fun _ _ h => h)
  · rcases hm.2.2 k hk with h | h
    · exact h4 k h
    · have := h3.size; omega
  · obtain ⟨t, cs', hb', ht⟩ := h1.typ hk
    have := blk_same (h6 g cs e) hb'
    subst this
    rcases ht with h | h | h <;> revert h <;> decide
theorem DpR.right_ (h : DpR W n du dr gu gr B w) : ∃ r : RD, r.g = gr ∧ RAt w r n dr ∧ (∀ k, r.fp k → W.heap.size ≤ k) ∧ ∀ (r' : RD) (dr' : DK.D) (w' : World), RAt w' r' n dr' → RMoved w r r' w' → DpR W n du dr' gu gr B w' := by
  obtain ⟨u, r, e1, e2, h1, h2, h3, h4, h5, h6⟩ := h
  refine ⟨r, e2, h2, h5, fun r' dr' w' hd hm => ⟨u, r', e1, hm.1.trans e2, h1.chg hm.2.1 (fun k hk hr => apart h1 h2 hk hr), hd, ?_, h4, fun k hk => ?_, fun g cs e => (h6 g cs e).chg hm.2.1 (fun hk => ?_)⟩⟩
  · exact ((Chg.of_below h3).trans hm.2.1 (fun k _ hk => h5 k hk)).below (Nat.le_refl _) (fun _ _ h => h)
  · rcases hm.2.2 k hk with h | h
    · exact h5 k h
    · have := h3.size; omega
  · obtain ⟨t, cs', hb', ht⟩ := h2.typ hk
    have := blk_same (h6 g cs e) hb'
    subst this
    rcases ht with h | h | h <;> revert h <;> decide
theorem dp_rwrite (h : DpR W n du dr gu gr B w) (i : Int) (A : Option Addr) (m c : Nat) (b : List Int) (hm : b.length = m) (hmm : m ≤ maxLen) (hws : dr.ws.length ≤ 10000) (hA : BytesAt W A b) :
    Calls Tryd.prog 14 #[.pointer (some ⟨gr, 0, none⟩), .int .i64 i, .slice A m c] w fun e w' => e = .returned (.int .i64 ((wrErr n dr i b).getD 0)) ∧ DpR W n du (wrTo n dr i b) gu gr B w' := by
  obtain ⟨r, rfl, h1, h2, h3⟩ := h.right_
  refine (rwrite_any w r n dr h1 i A m c b hm hmm hws (hA.ext h.bel) (fun h0 x hx => ?_)).mono ?_
  · have := bytes_lt hA h0 hx; have := h2 r.g (.inl rfl); omega
  · rintro e w' ⟨r', rfl, hr, hm⟩; exact ⟨rfl, h3 r' _ w' hr hm⟩
theorem dp_dwrite (h : DpR W n du dr gu gr B w) (i : Int) (A : Option Addr) (m c : Nat) (b : List Int) (hm : b.length = m) (hws : du.ws.length ≤ 10000) (hA : BytesAt W A b) :
    Calls Tryd.prog 15 #[.pointer (some ⟨gu, 0, none⟩), .int .i64 i, .slice A m c] w fun e w' => e = .returned (optErr (wrErr n du i b)) ∧ DpR W n (wrTo n du i b) dr gu gr B w' := by
  obtain ⟨u, rfl, h1, h2, h3⟩ := h.left_
  refine (dwrite_any w u n du h1 i A m c b hm hws (hA.ext h.bel) (fun h0 x hx => ?_)).mono ?_
  · have := bytes_lt hA h0 hx; have := h2 u.g (.inl rfl); omega
  · rintro e w' ⟨r', rfl, hr, hm⟩; exact ⟨rfl, h3 r' _ w' hr hm⟩
def synErr (d : DK.D) : Option Int := if DK.stopped d then some 8 else none
def synTo (d : DK.D) : DK.D := if DK.stopped d then DK.step d else DK.sync (DK.step d)
theorem dp_rsync (h : DpR W n du dr gu gr B w) :
    Calls Tryd.prog 16 #[.pointer (some ⟨gr, 0, none⟩)] w fun e w' => e = .returned (.int .i64 ((synErr dr).getD 0)) ∧ DpR W n du (synTo dr) gu gr B w' := by
  obtain ⟨r, rfl, h1, h2, h3⟩ := h.right_
  refine (rsync_any w r n dr h1).mono ?_
  rintro e w' ⟨r', rfl, hr, hm⟩
  refine ⟨?_, h3 r' _ w' hr hm⟩
  unfold synErr; split <;> rfl
theorem dp_dsync (h : DpR W n du dr gu gr B w) :
    Calls Tryd.prog 17 #[.pointer (some ⟨gu, 0, none⟩)] w fun e w' => e = .returned (optErr (synErr du)) ∧ DpR W n (synTo du) dr gu gr B w' := by
  obtain ⟨u, rfl, h1, h2, h3⟩ := h.left_
  refine (dsync_any w u n du h1).mono ?_
  rintro e w' ⟨r', rfl, hr, hm⟩
  refine ⟨?_, h3 r' _ w' hr hm⟩
  unfold synErr; split <;> rfl
theorem dp_dfail (h : DpR W n du dr gu gr B w) (x : Int) (hx : -9223372036854775808 ≤ x ∧ x ≤ 9223372036854775807) :
    Calls Tryd.prog 18 #[.pointer (some ⟨gu, 0, none⟩), .int .i64 x] w fun e w' => e = .returned (.tuple #[]) ∧ DpR W n (failTo du x) dr gu gr B w' := by
  obtain ⟨u, rfl, h1, h2, h3⟩ := h.left_
  refine (dfail_any w u n du h1 x hx).mono ?_
  rintro e w' ⟨rfl, hr, hm⟩
  exact ⟨rfl, h3 u _ w' hr ⟨rfl, hm.mono (fun k _ hk => .inl hk), fun k hk => .inl hk⟩⟩
theorem dp_rcrash (h : DpR W n du dr gu gr B w) (A : Option Addr) (m c : Nat) (keep : List Int) (hk : IntsAt W A keep) (hm : keep.length = m) (hmm : m ≤ maxLen) :
    Calls Tryd.prog 20 #[.pointer (some ⟨gr, 0, none⟩), .slice A m c] w fun e w' => e = .returned (.tuple #[]) ∧ DpR W n du (DK.crash dr keep) gu gr B w' := by
  obtain ⟨r, rfl, h1, h2, h3⟩ := h.right_
  refine (rcrash_any w r n dr h1 A m c keep (hk.ext h.bel) hm hmm (fun h0 x hx hf => ?_)).mono ?_
  · have := h2 _ hf
    rcases hk with hk | ⟨b, off, he, hl, _⟩
    · exact h0 hk
    · rw [he] at hx; injection hx with hx; subst hx; simp only at this; omega
  · rintro e w' ⟨r', rfl, hr, hm⟩; exact ⟨rfl, h3 r' _ w' hr hm⟩
theorem dp_dcrash (h : DpR W n du dr gu gr B w) (A : Option Addr) (m c : Nat) (keep : List Int) (hk : IntsAt W A keep) (hm : keep.length = m) (hmm : m ≤ maxLen) :
    Calls Tryd.prog 19 #[.pointer (some ⟨gu, 0, none⟩), .slice A m c] w fun e w' => e = .returned (.tuple #[]) ∧ DpR W n (DK.crash du keep) dr gu gr B w' := by
  obtain ⟨u, rfl, h1, h2, h3⟩ := h.left_
  refine (dcrash_any w u n du h1 A m c keep (hk.ext h.bel) hm hmm (fun h0 x hx hf => ?_)).mono ?_
  · have := h2 _ hf
    rcases hk with hk | ⟨b, off, he, hl, _⟩
    · exact h0 hk
    · rw [he] at hx; injection hx with hx; subst hx; simp only at this; omega
  · rintro e w' ⟨r', rfl, hr, hm⟩; exact ⟨rfl, h3 r' _ w' hr hm⟩
theorem dp_left (h : DpR W n du dr gu gr B w) : (∃ v, w.cell? ⟨gr, 3, none⟩ = some v) ∧ w.frozen? ⟨gr, 3, none⟩ = false ∧ ∀ x : Int, -1 ≤ x ∧ x ≤ 9223372036854775807 → DpR W n du { dr with left := x } gu gr B (w.setCell ⟨gr, 3, none⟩ (.int .i64 x)) := by
  obtain ⟨r, rfl, h1, h2, h3⟩ := h.right_
  exact ⟨⟨_, h1.blk.cell 3⟩, h1.blk.frozen 3, fun x hx => h3 r _ _ (h1.left x hx) ⟨rfl, (chg_cell _ _ _ _).mono (fun k _ hk => .inl hk), fun k hk => .inl hk⟩⟩
theorem dp_left2 (h : DpR W n du dr gu gr B w) (x y : Int) (hy : -1 ≤ y ∧ y ≤ 9223372036854775807) : DpR W n du { dr with left := y } gu gr B ((w.setCell ⟨gr, 3, none⟩ (.int .i64 x)).setCell ⟨gr, 3, none⟩ (.int .i64 y)) := by
  obtain ⟨r, rfl, h1, h2, h3⟩ := h.right_
  obtain ⟨w9, hw9⟩ : ∃ w9, w9 = ((w.setCell ⟨r.g, 3, none⟩ (.int .i64 x)).setCell ⟨r.g, 3, none⟩ (.int .i64 y)) := ⟨_, rfl⟩
  have cc : Chg (fun k => k = r.g) w w9 := by rw [hw9]; exact ((Chg.refl (fun k => k = r.g) w).setCell (p := ⟨r.g, 3, none⟩) (fun _ => rfl) _).setCell (p := ⟨r.g, 3, none⟩) (fun _ => rfl) _
  have pp : ∀ x, POk w x → POk w9 x := fun x hx => hx.chg cc (fun k hk => by subst hk; exact h1.nopage (.inl rfl))
  rw [← hw9]
  refine h3 r _ _ ⟨⟨h1.ok.lk, h1.ok.ln, h1.ok.kp, h1.ok.np, h1.ok.wp, hy⟩, h1.pos, h1.le, by rw [hw9]; simpa using (h1.blk.set_ 3 (.int .i64 x)).set_ 3 (.int .i64 y), own_chg h1.rk cc ?_, own_chg h1.rn cc ?_, own_chg h1.rw cc ?_, h1.n1, h1.hk, h1.hn, h1.hw, fun _ hx => pp _ (h1.pk _ hx), fun _ hx => pp _ (h1.pn _ hx), fun _ hx => pp _ (h1.pw _ hx)⟩ ⟨rfl, cc.mono (fun k _ hk => .inl hk), fun k hk => .inl hk⟩
  · intro k hk; simp [Value.ownBlock] at hk; subst hk; exact h1.ggk
  · intro k hk; simp [Value.ownBlock] at hk; subst hk; exact h1.ggn
  · intro k hk e; subst e; exact h1.ggw hk
theorem DpR.neq {g : Nat} {cs : Array Value} (h : DpR W n du dr gu gr (some (g, cs)) w) : g ≠ gr := fun e => by
  obtain ⟨r, rfl, h1, h2, h3⟩ := h.right_
  subst e
  exact absurd (blk_same h.box h1.blk) (by decide)
theorem dp_dread (h : DpR W n du dr gu gr B w) (i : Nat) (hi : i < n) :
    Calls Tryd.prog 21 #[.pointer (some ⟨gu, 0, none⟩), .int .i64 i] w (DRead w (du.now.getD i [])) := by
  obtain ⟨u, e, h1, h2, h3⟩ := h.left_
  subst e
  exact dread_yes w u n du h1 i _ (by rw [List.getD_eq_getElem?_getD, List.getElem?_eq_getElem (by rw [h1.ok.ln]; exact hi)]; rfl)
theorem dp_dreadno (h : DpR W n du dr gu gr B w) (i : Int) (hi : i < 0 ∨ (n : Int) ≤ i) :
    Calls Tryd.prog 21 #[.pointer (some ⟨gu, 0, none⟩), .int .i64 i] w fun e w' => e = .returned (.tuple #[.slice none 0 0, derrV 1]) ∧ Below w.heap.size w w' := by
  obtain ⟨u, rfl, h1, h2, h3⟩ := h.left_
  exact dread_no w u n du h1 i hi
theorem same_opt (w : World) (o : Option Int) (hg : Td.Door w) : Calls Tryd.prog 11 #[optErr o, .int .i64 (o.getD 0)] w fun x w' => x = .returned (.bool true) ∧ Below w.heap.size w w' := by
  cases o with
  | none => exact same_nil w 0 true rfl
  | some k => exact same_errno w k k hg true (by simp)
/-- The bytes of the references' page at a place. -/
theorem dp_page (h : DpR W n du dr gu gr B w) (i : Nat) (hi : i < n) : ∃ gn cn b c, w.cell? ⟨gr, 1, none⟩ = some (.slice (some ⟨gn, 0, none⟩) n cn) ∧ w.cell? ⟨gn, i, none⟩ = some (.slice (some ⟨b, 0, none⟩) 32 c) ∧ w.ownsRow 0 5 1 (.slice (some ⟨b, 0, none⟩) 32 c) 32 (DK.pgv (dr.now.getD i [])) := by
  obtain ⟨r, rfl, h1, h2, h3⟩ := h.right_
  have hl : r.N.length = n := by have := h1.rn.1; simpa using this
  obtain ⟨x, hx⟩ : ∃ x, r.N[i]? = some x := ⟨_, List.getElem?_eq_getElem (by omega)⟩
  refine ⟨r.gn, r.cn, x.b, x.c, h1.blk.cell 1, ?_, ?_⟩
  · rw [World.ownsRow.cellAt h1.rn i (by omega)]; simp [hx, pv]
  · have e : dr.now.getD i [] = x.p := by rw [← h1.hn, pgs, List.getD_eq_getElem?_getD, List.getElem?_map, hx]; rfl
    rw [e]
    exact h1.pn x (List.mem_of_getElem? hx)
end
theorem ws_step (d : DK.D) : (DK.step d).ws = d.ws := by unfold DK.step; split <;> rfl
theorem ws_write (n : Nat) (d : DK.D) (i : Int) (b : List Int) : (wrTo n d i b).ws.length ≤ d.ws.length + 1 := by
  unfold wrTo
  split
  · omega
  split
  · omega
  split
  · rw [ws_step]; omega
  · simp [DK.write, ws_step]
theorem ws_sync (d : DK.D) : (synTo d).ws.length ≤ d.ws.length := by
  unfold synTo
  split
  · rw [ws_step]; omega
  · simp [DK.sync]
noncomputable def dpRound : Code := cArm (cFst (cSnd (cArm (cArm (cSnd (cFst (cSnd (cSnd (cSnd (cSnd (cSnd (cBody Tryd.f3))))))))))))
noncomputable def dpSw : Code := cSnd (cFst (cSnd (cSnd dpRound)))
noncomputable def dpIn : Code := cSnd (cFst (cSnd (cSnd (cSnd (cSnd dpRound)))))
end Go.Proofs.YtenjblonepegfaaDoor
