/-
  A store on its disk through a law: a contract for each method in one word. Conditions: they lie as 'SkR' says.
-/
import Derived.Test.YtenjblonepegfaaDoorSl
import Derived.Test.YtenjblonepegfaaDoorSt15
import Derived.Test.YtenjblonepegfaaDoorTd2
import Derived.Test.YtenjblonepegfaaDoorArg4
namespace Go.Proofs.YtenjblonepegfaaDoor
open Go Go.RowKit
set_option linter.unusedVariables false

structure SkR (W : World) (n : Nat) (d : DK.D) (gu gs : Nat) (t : Nat) (b : List Int) (dn : Bool) (B : Option (Nat × Array Value)) (wr : World) : Prop where
  all : ∃ u v, DAt wr u n d ∧ u.g = gu ∧ SoAt wr gs gu t v dn b ∧ (∀ k, u.fp k → W.heap.size ≤ k) ∧ (∀ k, v.ownBlock = some k → W.heap.size ≤ k)
  bel : Below W.heap.size W wr
  gs : W.heap.size ≤ gs
  box : ∀ g cs, B = some (g, cs) → Blk wr g 37 cs ∧ W.heap.size ≤ g
section
variable {W wr w' : World} {n gu gs t : Nat} {d : DK.D} {b c : List Int} {dn : Bool} {B : Option (Nat × Array Value)}
theorem SkR.chg {S : Nat → Prop} (h : SkR W n d gu gs t b dn B wr) (hc : Chg S wr w') (hB : ∀ k, S k → wr.heap.size ≤ k) : SkR W n d gu gs t b dn B w' := by
  have hx : Ext wr w' := hc.below (Nat.le_refl _) (fun k _ hk => hB k hk)
  obtain ⟨u, v, h1, h2, h3, h4, h5⟩ := h.all
  exact ⟨⟨u, v, h1.ext hx, h2, h3.ext hx, h4, h5⟩, h.bel.trans (Below.mono hx h.bel.size), h.gs, fun g cs hg => by
    obtain ⟨q1, q2⟩ := h.box g cs hg
    exact ⟨q1.chg (Chg.of_below hx) (by have := q1.lt; omega), q2⟩⟩
theorem SkR.ext (h : SkR W n d gu gs t b dn B wr) (hx : Ext wr w') : SkR W n d gu gs t b dn B w' := h.chg (Chg.of_below hx) (fun _ h => h)
theorem SkR.drop (h : SkR W n d gu gs t b dn B wr) : SkR W n d gu gs t b dn none wr := ⟨h.all, h.bel, h.gs, fun _ _ h => by simp at h⟩
theorem SkR.withBox (h : SkR W n d gu gs t b dn none wr) (cs : Array Value) : SkR W n d gu gs t b dn (some (wr.heap.size, cs)) (wr.alloc (.cells cs 37)) := by
  have h1 := h.ext (Ext.alloc wr (.cells cs 37))
  exact ⟨h1.all, h1.bel, h1.gs, fun g cs' hg => by
    simp at hg; obtain ⟨rfl, rfl⟩ := hg
    exact ⟨Blk.new _ _ _, h.bel.size⟩⟩
/-- What lay ahead of the law is as it was. -/
theorem SkR.old (h : SkR W n d gu gs t b dn B wr) {A : Option Addr} (hA : BytesAt W A c) : BytesAt wr A c := hA.ext h.bel
/-- The disk has turned, and what is new. -/
theorem SkR.moved {u u' : Dsk} {v' : Value} {d' : DK.D} {t' : Nat} {b' : List Int} {dn' : Bool} (h : SkR W n d gu gs t b dn B wr) (h1 : DAt wr u n d) (h2 : u.g = gu) (h4 : ∀ k, u.fp k → W.heap.size ≤ k) {S : Nat → Prop} (hS : ∀ k, S k → u.fp k ∨ k = gs)
    (hc : Chg S wr w') (hd : DAt w' u' n d') (hu : u'.g = u.g) (hf : ∀ k, u'.fp k → u.fp k ∨ wr.heap.size ≤ k) (hs : SoAt w' gs gu t' v' dn' b') (hv : ∀ k, v'.ownBlock = some k → W.heap.size ≤ k) : SkR W n d' gu gs t' b' dn' B w' := by
  obtain ⟨u0, v0, k1, k2, k3, _, _⟩ := h.all
  have hbel := h.bel
  have hge := h.gs
  have e : Below W.heap.size wr w' := hc.below hbel.size (fun k _ hk => by
    rcases hS k hk with hk | rfl
    · exact h4 k hk
    · exact hge)
  refine ⟨⟨u', v', hd, hu.trans h2, hs, fun k hk => ?_, hv⟩, hbel.trans e, hge, fun g cs hg => ?_⟩
  · rcases hf k hk with hk | hk
    · exact h4 k hk
    · have := hbel.size; omega
  · obtain ⟨q1, q2⟩ := h.box g cs hg
    refine ⟨q1.chg hc (fun hk => ?_), q2⟩
    rcases hS g hk with hk | rfl
    · exact h1.notyp q1 (by decide) hk
    · exact absurd (blk_same k3.blk q1) (by decide)
theorem sk_turn (h : SkR W n d gu gs t b dn B wr) : Calls Tryd.prog 44 #[.pointer (some ⟨gs, 0, none⟩)] wr fun e w' => e = .returned (.int .i64 t) ∧ wr = w' := by
  obtain ⟨u, v, h1, h2, h3, h4, h5⟩ := h.all
  exact turn_any wr gs gu t v dn b h3
theorem row_string {w : World} {v : Value} {p : List Int} (h : w.ownsRow 0 5 1 v p.length (DK.pgv p)) : (convert 33 9 v).run Tryd.prog w = .ok (.string (strOfNums p)) w := by
  rcases h.2 with ⟨rfl, h0⟩ | ⟨g, cap, cur, rfl, _⟩
  · obtain rfl : p = [] := List.eq_nil_of_length_eq_zero h0
    exact run_convert_bytes_nil w 33 5 Tryd.underlying33 Tryd.underlying5 0 0 9 Tryd.underlying9
  · refine run_convert_bytes_arg w 33 5 Tryd.underlying33 Tryd.underlying5 g 0 p.length cap p rfl (fun i hi => ?_) 9 Tryd.underlying9
    rw [Nat.zero_add, h.cellAt i (by omega)]
    simp [DK.pgv, List.getD_eq_getElem?_getD, List.getElem?_eq_getElem hi]
theorem bytes_string {w : World} {A : Option Addr} {m c : Nat} {p : List Int} (h : BytesAt w A p) (hm : p.length = m) : (convert 33 9 (.slice A m c)).run Tryd.prog w = .ok (.string (strOfNums p)) w := by
  by_cases hp : p = []
  · subst hp
    subst hm
    rcases A with _ | ad
    · exact run_convert_bytes_nil w 33 5 Tryd.underlying33 Tryd.underlying5 0 c 9 Tryd.underlying9
    · rw [run_convert_bytes_string w 33 9 5 _ _ _ Tryd.underlying33 Tryd.underlying5 Tryd.underlying9]
      exact run_bytesToString w ad 0 c [] (by simpa using run_loadCells_list (P := Tryd.prog) w ad [] (fun j v hj => by simp at hj))
  · rcases h with h | ⟨g, o, rfl, hl, hx⟩
    · exact absurd h hp
    · refine run_convert_bytes_arg w 33 5 Tryd.underlying33 Tryd.underlying5 g o m c p hm (fun i hi => ?_) 9 Tryd.underlying9
      have hi' : i < p.length := by omega
      rw [hx i _ (List.getElem?_eq_getElem hi')]
      simp [List.getD_eq_getElem?_getD, List.getElem?_eq_getElem hi']
/-- What Load leaves. -/
def SkLoad (W : World) (n : Nat) (d : DK.D) (gu gs t : Nat) (b : List Int) (dn : Bool) (B : Option (Nat × Array Value)) (e : Ending) (w' : World) : Prop :=
  ∃ A c, e = .returned (.slice A b.length c) ∧ (convert 33 9 (.slice A b.length c)).run Tryd.prog w' = .ok (.string (strOfNums b)) w' ∧ SkR W n d gu gs t b dn B w'
theorem sk_load (h : SkR W n d gu gs t b dn B wr) (hb : b.length ≤ 960) : Calls Tryd.prog 43 #[.pointer (some ⟨gs, 0, none⟩)] wr (SkLoad W n d gu gs t b dn B) := by
  obtain ⟨u, v, h1, h2, h3, h4, h5⟩ := h.all
  refine (load_any wr gs gu t v dn b h3 (by omega)).mono ?_
  rintro e w' ⟨v', rfl, q1, q2, q3⟩
  obtain ⟨A, c, rfl, _⟩ := own_slice3 q1
  exact ⟨A, c, rfl, row_string q1, h.ext q2⟩
theorem sk_full (A : Option Addr) (m k : Nat) (hm : 960 < m) : Calls Tryd.prog 42 #[.pointer (some ⟨gs, 0, none⟩), .slice A m k] wr fun e w' => e = .returned (derrV 3) ∧ wr = w' := save_full wr gs A m k hm
theorem sk_down (h : SkR W n d gu gs t b true B wr) : Calls Tryd.prog 42 #[.pointer (some ⟨gs, 0, none⟩), .slice none 0 0] wr fun e w' => e = .returned (derrV 8) ∧ wr = w' := by
  obtain ⟨u, v, h1, h2, h3, h4, h5⟩ := h.all
  exact save_down wr gs gu t v b h3 none 0 0 (by omega)
/-- What Save leaves. -/
def SkSave (W : World) (n : Nat) (d : DK.D) (gu gs t : Nat) (b c : List Int) (B : Option (Nat × Array Value)) (e : Ending) (w' : World) : Prop :=
  (∃ d', e = .returned .nilIface ∧ SkR W n d' gu gs (t + 1) c false B w' ∧ Good n d' (t + 1) c ∧ (d.left = -1 → d'.left = -1)) ∨
  (∃ d', e = .returned (derrV 8) ∧ d.left ≠ -1 ∧ SkR W n d' gu gs t b true B w' ∧ ∀ keep, Good n (DK.crash d' keep) t b ∨ Good n (DK.crash d' keep) (t + 1) c)
theorem sk_save (h : SkR W n d gu gs t b false B wr) (hn : 62 ≤ n) (hg : Good n d t b) (ht : t + 1 ≤ 100) (A : Option Addr) (m k : Nat) (hm : c.length = m) (hm2 : m ≤ 960) (hmk : m ≤ k) (hkm : k ≤ maxLen) (hA : BytesAt wr A c) (hAb : c ≠ [] → ∀ x, A = some x → x.block < W.heap.size ∨ ∃ cs, Blk wr x.block 5 cs) :
    Calls Tryd.prog 42 #[.pointer (some ⟨gs, 0, none⟩), .slice A m k] wr (SkSave W n d gu gs t b c B) := by
  obtain ⟨u, v, h1, h2, h3, h4, h5⟩ := h.all
  subst h2
  refine (save_any wr u n d h1 gs t v b h3 (by omega) A m k c hm hm2 hmk hkm hA (fun hne x hx => ?_) (by rw [hg.ws]; simp)).mono ?_
  · rcases hAb hne x hx with hl | ⟨cs, hb⟩
    · exact ⟨fun hk => by have := h4 _ hk; omega, by have := h.gs; omega⟩
    · exact ⟨h1.notyp hb (by decide), hb.ne_ h3.blk (by decide)⟩
  · rintro e w' ⟨u', v', rfl, q1, q2, q3, q4, q5⟩
    rcases save_law hn hg ht (by omega : c.length ≤ 960) with ⟨r1, r2, r3⟩ | ⟨r1, r2, r3⟩
    · rw [r1] at q5 ⊢
      obtain ⟨q5, q6⟩ := q5
      exact .inl ⟨_, rfl, h.moved h1 rfl h4 (fun _ hk => hk) q3 q1 q2 q4 q5 (fun k hk => Nat.le_trans h.bel.size (q6 k hk)), r2, r3⟩
    · rw [r1] at q5 ⊢
      exact .inr ⟨_, rfl, r2, h.moved h1 rfl h4 (fun _ hk => hk) q3 q1 q2 q4 q5 h5, r3⟩
theorem sk_crash (h : SkR W n d gu gs t b dn B wr) (A : Option Addr) (m k : Nat) (keep : List Int) (hk : IntsAt W A keep) (hm : keep.length = m) (hmm : m ≤ maxLen) : Calls Tryd.prog 19 #[.pointer (some ⟨gu, 0, none⟩), .slice A m k] wr fun e w' => e = .returned (.tuple #[]) ∧ SkR W n (DK.crash d keep) gu gs t b dn B w' := by
  obtain ⟨u, v, h1, h2, h3, h4, h5⟩ := h.all
  subst h2
  refine (dcrash_any wr u n d h1 A m k keep (hk.ext h.bel) hm hmm (fun hne x hx hf => ?_)).mono ?_
  · have := h4 _ hf
    rcases hk with rfl | ⟨g, o, rfl, hl, _⟩
    · exact hne rfl
    · injection hx with hx; subst hx; simp at this; omega
  · rintro e w' ⟨u', rfl, q1, q2, q3, q4⟩
    exact ⟨rfl, h.moved h1 rfl h4 (fun _ hk => .inl hk) q3 q1 q2 q4 (h3.chg q3 (h1.notyp h3.blk (by decide)) (h1.notown h3.row)) h5⟩
theorem sk_fail (h : SkR W n d gu gs t b dn B wr) (x : Int) (hx : -9223372036854775808 ≤ x ∧ x ≤ 9223372036854775807) : Calls Tryd.prog 18 #[.pointer (some ⟨gu, 0, none⟩), .int .i64 x] wr fun e w' => e = .returned (.tuple #[]) ∧ SkR W n (failTo d x) gu gs t b dn B w' := by
  obtain ⟨u, v, h1, h2, h3, h4, h5⟩ := h.all
  subst h2
  refine (dfail_any wr u n d h1 x hx).mono ?_
  rintro e w' ⟨rfl, q1, q2⟩
  have hng : ¬ gs = u.g := fun e => h1.notyp h3.blk (by decide) (.inl e)
  exact ⟨rfl, h.moved h1 rfl h4 (S := fun k => k = u.g) (fun _ hk => .inl (.inl hk)) q2 q1 rfl (fun _ hk => .inl hk) (h3.chg q2 hng (fun k hk e => h1.notown h3.row k hk (.inl e))) h5⟩
/-- What Open leaves. -/
def SkOpen (W : World) (n : Nat) (d : DK.D) (gu t : Nat) (b : List Int) (B : Option (Nat × Array Value)) (e : Ending) (w' : World) : Prop :=
  ∃ gs, e = .returned (.tuple #[.pointer (some ⟨gs, 0, none⟩), .nilIface]) ∧ SkR W n d gu gs t b false B w'
theorem open_good (w : World) (u : Dsk) (h : DAt w u n d) (hn : 62 ≤ n) (hg : Good n d t b) : Calls Tryd.prog 41 #[.pointer (some ⟨u.g, 0, none⟩)] w (OpenPost w u t b) := by
  obtain ⟨T, L, q1, q2⟩ := hg.heads
  exact open_any w u n d h hn T L q1 t b.length b rfl hg.ps.bl (by have := hg.ps.tl; omega) q2 hg.ps.dat
theorem sk_open0 (u : Dsk) (h : DAt wr u n d) (hb : Below W.heap.size W wr) (hf : ∀ k, u.fp k → W.heap.size ≤ k) (hn : 62 ≤ n) (hg : Good n d t b) : Calls Tryd.prog 41 #[.pointer (some ⟨u.g, 0, none⟩)] wr (SkOpen W n d u.g t b none) := by
  refine (open_good wr u h hn hg).mono ?_
  rintro e w' ⟨g, v, rfl, q1, q2, q3, q4⟩
  have := hb.size
  exact ⟨g, rfl, ⟨u, v, h.ext q2, rfl, q1, hf, fun k hk => Nat.le_trans this (q4 k hk)⟩, hb.trans (Below.mono q2 this), Nat.le_trans this q3, fun _ _ h => by simp at h⟩
theorem sk_open {t0 : Nat} {b0 : List Int} (h : SkR W n d gu gs t0 b0 dn B wr) (hn : 62 ≤ n) (hg : Good n d t b) : Calls Tryd.prog 41 #[.pointer (some ⟨gu, 0, none⟩)] wr (SkOpen W n d gu t b B) := by
  obtain ⟨u, v, h1, h2, h3, h4, h5⟩ := h.all
  subst h2
  refine (open_good wr u h1 hn hg).mono ?_
  rintro e w' ⟨g, v, rfl, q1, q2, q3, q4⟩
  have := h.bel.size
  exact ⟨g, rfl, ⟨u, v, h1.ext q2, rfl, q1, h4, fun k hk => Nat.le_trans this (q4 k hk)⟩, h.bel.trans (Below.mono q2 this), Nat.le_trans this q3, fun g cs hg => by
    obtain ⟨k1, k2⟩ := h.box g cs hg
    exact ⟨k1.chg (Chg.of_below q2) (by have := k1.lt; omega), k2⟩⟩
theorem Good.fail (h : Good n d t b) (x : Int) : Good n (failTo d x) t b := ⟨h.ps, h.dn, h.ws, h.kn⟩
end
end Go.Proofs.YtenjblonepegfaaDoor
