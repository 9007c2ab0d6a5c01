/-
  A union and a forest beside each other in memory; a graph's Tree; the shortest way, in plain words. Conditions: they lie as 'WyS' says.
  Who is joined is joined by a way: the walk of TopWays. Conditions: the events are read as 'EvRow' says.
-/
import Derived.Test.YthgniehfejklhaaGreatTopWaysPk3
import Derived.Test.YthgniehfejklhaaGreatTopWaysPk4
import Derived.Test.YthgniehfejklhaaGreatTopWaysPk6
import Derived.Test.YthgniehfejklhaaGreatBs46
import Derived.Lib.QuietBelow
import Derived.StillTailTactics
import Derived.Deep.RegionHeld3
namespace Go.Proofs.YthgniehfejklhaaGreat
open Go Go.RowKit SQ TR DF PD PT
set_option linter.unusedVariables false

/-- A union and a forest behind some edges: ha of the union, i of the forest. -/
def WyG (W wr : World) (gu fb n N : Nat) (hs : UF.Hs) (E : List AK.Ed) : Prop :=
  (∃ (u : Uni) (F : FoP), u.g = gu ∧ F.fb = fb ∧ UAt wr u n hs ∧ FoAt wr F n N E ∧ (∀ k, u.fp k → W.heap.size ≤ k) ∧ (W.heap.size ≤ F.fb ∧ ∀ k, F.S k → W.heap.size ≤ k) ∧ (∀ k, u.fp k → ¬ F.S k ∧ k ≠ F.fb)) ∧ Ext W wr
section
variable {W wr w' : World} {gu fb n N i a b u v : Nat} {hs : UF.Hs} {E A : List AK.Ed}
theorem WyG.moved (h : WyG W wr gu fb n N hs E) (hx : Ext wr w') : WyG W w' gu fb n N hs E := by
  obtain ⟨⟨u, F, h1, h2, h3, h4, h5⟩, h6⟩ := h
  exact ⟨⟨u, F, h1, h2, h3.new hx, h4.ext hx, h5⟩, h6.trans hx⟩
theorem uni_typ {u : Uni} (h : UAt wr u n hs) {k : Nat} (hk : u.fp k) {t : TypeId} {cs : Array Value} (hb : Blk wr k t cs) : t = 135 ∨ t = 3 := by
  by_cases e : t = 3
  · exact .inr e
  · have hne : 3 ≠ t := fun q => e q.symm
    rcases hk with rfl | rfl | rfl | hk
    · exact .inl (blk_ty hb h.blk)
    · exact absurd rfl (own_ne h.rup hb hne)
    · exact absurd rfl (own_ne h.rsz hb hne)
    · exact absurd hk (own_ne h.rdn hb hne)
theorem wy_join (h : WyG W wr gu fb n N hs E) (ha : a < n) (hb : b < n) : Calls Tryz.prog 36 #[.pointer (some ⟨gu, 0, none⟩), .int .i64 a, .int .i64 b] wr fun e w' => (∃ v, e = .returned v) ∧ WyG W w' gu fb n N (UF.join hs a b) E := by
  obtain ⟨⟨u, F, h1, rfl, h3, h4, h5, h6, h7⟩, h8⟩ := h
  refine (join_in h3 h1 a b (by omega) (by omega)).mono ?_
  rintro e w' ⟨u', rfl, q1, q2, q3, q4⟩
  simp only [Int.toNat_natCast] at q1
  have hz := h8.size
  refine ⟨⟨_, rfl⟩, ⟨u', F, q2.trans h1, rfl, q1, h4.chg q3 (fun q => (h7 _ q).2 rfl) (fun k hk q => (h7 k q).1 hk) (fun k hk cs hbk => ?_), fun k hk => ?_, h6, fun k hk => ?_⟩, Below.trans h8 (q3.below hz (fun k _ hk => h5 k hk))⟩
  · have := uni_typ h3 hk hbk
    revert this; decide
  · rcases q4 k hk with q | q
    · exact h5 k q
    · omega
  · rcases q4 k hk with q | q
    · exact h7 k q
    · have hl := h4.lt
      exact ⟨fun z => by have := hl.2 k z; omega, fun z => by rw [z] at q; omega⟩
theorem wy_link_yes (h : WyG W wr gu fb n N hs E) (hN : N < 1000000) (ha : a < n) (hb : b < n) (hc : ¬ Cn (adj E) a b) : Calls Tryz.prog 37 #[.pointer (some ⟨fb, 0, none⟩), .int .i64 a, .int .i64 b] wr fun e w' => (∃ v, e = .returned v) ∧ WyG W w' gu fb n (N + 1) hs (putE (AK.ek a b) E) := by
  obtain ⟨⟨u, F, h1, rfl, h3, h4, h5, h6, h7⟩, h8⟩ := h
  refine (tlink_ok h4 hN a b ha hb hc).mono ?_
  rintro e w' ⟨rfl, q1, q2⟩
  exact ⟨⟨_, rfl⟩, ⟨u, F, h1, rfl, h3.chg q2 (fun k hk => (h7 k hk).1), q1, h5, h6, h7⟩, Below.trans h8 (q2.below h8.size (fun k _ hk => h6.2 k hk))⟩
theorem wy_link_no (h : WyG W wr gu fb n N hs E) (ha : a < n) (hb : b < n) (hc : Cn (adj E) a b) : Calls Tryz.prog 37 #[.pointer (some ⟨fb, 0, none⟩), .int .i64 a, .int .i64 b] wr fun e w' => (∃ v, e = .returned v) ∧ WyG W w' gu fb n N hs E := by
  have h0 := h
  obtain ⟨⟨u, F, h1, rfl, h3, h4, h5, h6, h7⟩, h8⟩ := h
  refine (tlink_clash h4 a b ha hb hc).mono ?_
  rintro e w' ⟨rfl, hx⟩
  exact ⟨⟨_, rfl⟩, h0.moved hx⟩
/-- Behind the first i edges. -/
def WyS (W wr : World) (gu fb n : Nat) (A : List AK.Ed) (i : Nat) : Prop := ∃ hs E N, N ≤ n + i ∧ WyG W wr gu fb n N hs E ∧ UfS A i hs E
/-- The union is behind one edge more. -/
def WyM (W wr : World) (gu fb n : Nat) (A : List AK.Ed) (i u v : Nat) : Prop := ∃ hs E N, N ≤ n + i ∧ WyG W wr gu fb n N (UF.join hs u v) E ∧ UfS A i hs E
theorem WyS.moved {n : Nat} (h : WyS W wr gu fb n A i) (hx : Ext wr w') : WyS W w' gu fb n A i := by
  obtain ⟨hs, E, N, h1, h2, h3⟩ := h
  exact ⟨hs, E, N, h1, h2.moved hx, h3⟩
theorem WyM.moved {n : Nat} (h : WyM W wr gu fb n A i u v) (hx : Ext wr w') : WyM W w' gu fb n A i u v := by
  obtain ⟨hs, E, N, h1, h2, h3⟩ := h
  exact ⟨hs, E, N, h1, h2.moved hx, h3⟩
theorem WyS.ext {n : Nat} (h : WyS W wr gu fb n A i) : Ext W wr := by obtain ⟨hs, E, N, h1, h2, h3⟩ := h; exact h2.2
theorem WyM.ext {n : Nat} (h : WyM W wr gu fb n A i u v) : Ext W wr := by obtain ⟨hs, E, N, h1, h2, h3⟩ := h; exact h2.2
theorem WyS.join {n : Nat} (h : WyS W wr gu fb n A i) (ha : u < n) (hb : v < n) : Calls Tryz.prog 36 #[.pointer (some ⟨gu, 0, none⟩), .int .i64 u, .int .i64 v] wr fun e w' => (∃ x, e = .returned x) ∧ WyM W w' gu fb n A i u v := by
  obtain ⟨hs, E, N, h1, h2, h3⟩ := h
  refine (wy_join h2 ha hb).mono ?_
  rintro e w' ⟨hx, q⟩
  exact ⟨hx, hs, E, N, h1, q, h3⟩
theorem WyM.link {n : Nat} (h : WyM W wr gu fb n A i u v) (hi : n + i < 1000000) (ha : u < n) (hb : v < n) (hx : A[i]? = some ((u : Int), (v : Int))) : Calls Tryz.prog 37 #[.pointer (some ⟨fb, 0, none⟩), .int .i64 u, .int .i64 v] wr fun e w' => (∃ x, e = .returned x) ∧ WyS W w' gu fb n A (i + 1) := by
  obtain ⟨hs, E, N, h1, h2, h3⟩ := h
  by_cases c : Cn (adj E) u v
  · refine (wy_link_no h2 ha hb c).mono ?_
    rintro e w' ⟨hv, q⟩
    exact ⟨hv, _, E, N, by omega, q, h3.same hx c⟩
  · have hE : ∀ x ∈ E, x.1 < x.2 := by
      obtain ⟨⟨u', F, _, _, _, h4, _⟩, _⟩ := h2
      exact h4.fo.lt
    refine (wy_link_yes h2 (by omega) ha hb c).mono ?_
    rintro e w' ⟨hv, q⟩
    exact ⟨hv, _, _, N + 1, by omega, q, h3.new hx hE c⟩
theorem WyS.same_u {n : Nat} (h : WyS W wr gu fb n A A.length) (ha : a < n) (hb : b < n) {t : Bool} (ht : t = true ↔ Cn (adj A) a b) : Calls Tryz.prog 38 #[.pointer (some ⟨gu, 0, none⟩), .int .i64 a, .int .i64 b] wr fun e w' => e = .returned (.tuple #[.bool t, .nilIface]) ∧ Ext wr w' := by
  obtain ⟨hs, E, N, h1, ⟨⟨u, F, q1, q2, q3, q4, q5⟩, q6⟩, h3⟩ := h
  refine (same_in q3 q1 a b (by omega) (by omega)).mono ?_
  rintro e w' ⟨rfl, hx⟩
  refine ⟨?_, hx⟩
  have : (UF.rt hs (a : Int).toNat == UF.rt hs (b : Int).toNat) = t := by
    simp only [Int.toNat_natCast]
    have h4 := h3.all a b
    cases t with
    | true => rw [beq_iff_eq, h4]; exact ht.1 rfl
    | false =>
      rw [beq_eq_false_iff_ne]
      intro e
      have := ht.2 (h4.1 e)
      cases this
  rw [this]
theorem WyS.same_f {n : Nat} (h : WyS W wr gu fb n A A.length) (ha : a < n) (hb : b < n) {t : Bool} (ht : t = true ↔ Cn (adj A) a b) : Calls Tryz.prog 39 #[.pointer (some ⟨fb, 0, none⟩), .int .i64 a, .int .i64 b] wr fun e w' => e = .returned (.tuple #[.bool t, .nilIface]) ∧ Ext wr w' := by
  obtain ⟨hs, E, N, h1, ⟨⟨u, F, q1, rfl, q3, q4, q5⟩, q6⟩, h3⟩ := h
  have hc := h3.cn a b
  rw [List.take_length] at hc
  exact tsame_ok q4 a b ha hb t (ht.trans hc.symm)
theorem WyS.size {n : Nat} (h : WyS W wr gu fb n A A.length) (ha : a < n) : Calls Tryz.prog 40 #[.pointer (some ⟨gu, 0, none⟩), .int .i64 a] wr fun e w' => e = .returned (.tuple #[.int .i64 ((comp n A a).length : Nat), .nilIface]) ∧ Ext wr w' := by
  obtain ⟨hs, E, N, h1, ⟨⟨u, F, rfl, q2, q3, q4, q5⟩, q6⟩, h3⟩ := h
  have := size_yes wr u n hs q3 a ha
  rwa [h3.size q3.ok ha] at this
theorem WyS.parts_u {n : Nat} (h : WyS W wr gu fb n A A.length) : Calls Tryz.prog 41 #[.pointer (some ⟨gu, 0, none⟩)] wr fun e w' => e = .returned (.int .i64 (PD.cnt (ldr A) n : Nat)) ∧ Ext wr w' := by
  obtain ⟨hs, E, N, h1, ⟨⟨u, F, rfl, q2, q3, q4, q5⟩, q6⟩, h3⟩ := h
  have hp := h3.parts q4.fo
  refine (parts_any wr u n hs q3).mono ?_
  rintro e w' ⟨rfl, rfl⟩
  refine ⟨?_, Ext.refl _⟩
  rw [show ((n : Int) - (hs.length : Int)) = ((PD.cnt (ldr A) n : Nat) : Int) by rw [h3.len]; omega]
theorem WyS.edges {n : Nat} (h : WyS W wr gu fb n A A.length) : Calls Tryz.prog 42 #[.pointer (some ⟨fb, 0, none⟩)] wr fun e w' => ∃ R L c, e = .returned (.slice R L c) ∧ PD.cnt (ldr A) n + L = n ∧ Ext wr w' := by
  obtain ⟨hs, E, N, h1, ⟨⟨u, F, q1, rfl, q3, q4, q5⟩, q6⟩, h3⟩ := h
  have hp := h3.parts q4.fo
  refine (tedges_any q4).mono ?_
  rintro e w' ⟨R, c, rfl, _, hx, _⟩
  exact ⟨R, E.length, c, rfl, hp, hx⟩
end
/-- The shortest way, in plain words. -/
theorem short_w (w : World) {n : Nat} {l : List AK.Ed} (hd : DkE n l) (R : Option Addr) (c : Nat) (hE : EdsAt w R l) (a b : Nat) (ha : a < n) (hb : b < n) :
    Calls Tryz.prog 32 #[.int .i64 n, .slice R l.length c, .int .i64 a, .int .i64 b] w fun e w' => Ext w w' ∧ ((¬ Cn (adj l) a b ∧ ∃ k : Int, e = .returned (.tuple #[.slice none 0 0, errV k])) ∨ (Cn (adj l) a b ∧ ∃ Rx m cx d, e = .returned (.tuple #[.slice Rx m cx, .nilIface]) ∧ IsDist n l b d ∧ (m : Int) = g d a + 1 ∧ m ≤ 100)) := by
  have hn := hd.hn
  have hck : ckF (n : Int) l [(a : Int), (b : Int)] = 0 := by
    unfold ckF
    rw [if_neg (by rw [hd.enc]; simp), if_neg]
    simp [badN]; omega
  have hin : ∀ u v, adj l u v → v < n := fun u v e => (adj_in hd.ok e).2.1
  refine (short_any w n R l.length c l rfl (by have := hd.le; omega) hE a b).mono ?_
  rintro e w' ⟨hx, ⟨hbad, _⟩ | ⟨k, x, y, d, _, hk, hax, hby, hdist, hh⟩⟩
  · exact absurd hck hbad
  · obtain rfl : k = n := by omega
    obtain rfl : x = a := by omega
    obtain rfl : y = b := by omega
    have hcn := dist_cnW hdist hin ha
    rcases hh with ⟨h0, rfl⟩ | ⟨h0, Rx, cx, p, rfl, hw, _, hp⟩
    · exact ⟨hx, .inl ⟨fun q => by have := hcn.2 q.symm; omega, 4, rfl⟩⟩
    · exact ⟨hx, .inr ⟨(hcn.1 h0).symm, Rx, p.length, cx, d, rfl, hdist, (PD.Way.at hw ha).2.1, hp⟩⟩
end Go.Proofs.YthgniehfejklhaaGreat
namespace Go.Proofs.YthgniehfejklhaaGreat
open Go Go.RowKit SQ TR DF PD PT
set_option linter.unusedVariables false

theorem ways_fin {i L q : Nat} (h : q + L = i) (hi : i ≤ 60) : (IntKind.i64.wrap ((i : Int) - (L : Int)) == (q : Int)) = true := by
  rw [beq_iff_eq, IntWalk.i64_in _ (by omega)]
  omega

set_option maxHeartbeats 8000000 in
set_option maxRecDepth 100000 in
theorem tw_walk (n : Int) (a1 : Option Addr) (len1 cap1 : Nat) (l : List AK.Ev) (a b : Int) (w : World) (h1 : EvRow w a1 l ∧ l.length = len1 ∧ (len1 ≤ cap1 ∧ cap1 ≤ maxLen) ∧ EvIn l) :
    Calls Tryz.prog 7 #[.int .i64 n, .slice a1 len1 cap1, .int .i64 a, .int .i64 b] w fun e w' => e = .returned (.bool true) ∧ Below w.heap.size w w' := by
  obtain ⟨hE1, hl1, ⟨hlc, hcm⟩, hin1⟩ := h1
  unfold maxLen at hcm
  have HE1 : Hid (EvRow w a1 l ∧ l.length = len1 ∧ EvIn l) := ⟨hE1, hl1, hin1⟩
  clear hE1 hl1 hin1
  by_cases hn : n < 1 ∨ 60 < n
  · have HDN := Lib.hid (fun W => drawn_no W n a1 len1 cap1 hn)
    clear hn
    go_enter Tryz.func7, Tryz.ntmps7
    go_wp2_with fail
    refine (one_any w).mono ?_
    rintro e w1 ⟨rfl, hx1⟩
    have X1 : Hid (Ext w w1) := hx1
    clear hx1
    go_wp2_with fail
    refine (HDN.out w1).mono ?_
    rintro e w2 ⟨rfl, rfl⟩
    go_wp2
    go_ret
    exact ⟨rfl, X1.out⟩
  obtain ⟨n, rfl⟩ := Int.eq_ofNat_of_zero_le (show 0 ≤ n by omega)
  have hn2 : 1 ≤ n ∧ n ≤ 60 := by omega
  clear hn
  go_enter Tryz.func7, Tryz.ntmps7
  go_wp2_with fail
  refine (one_any w).mono ?_
  rintro e w1 ⟨rfl, hx1⟩
  have X1 : Hid (Ext w w1) := hx1
  have HDR := Lib.hid (drawn_any w1 n hn2 a1 len1 cap1 l HE1.out.2.1 (HE1.out.1.ext hx1) HE1.out.2.2)
  clear hx1
  go_wp2_with fail
  refine HDR.out.mono ?_
  rintro e w2 ⟨G, A, f, N, rfl, hg2, hN, hA⟩
  obtain ⟨g0, hg0⟩ : ∃ g, G.gb = g := ⟨_, rfl⟩
  rw [hg0]
  obtain ⟨T, hT⟩ : ∃ T, GM.lvl f A 0 = T := ⟨_, rfl⟩
  have HZ : Hid (GzA w1 w2 g0 n 480060 w2.heap.size 0 A) := by
    have := GzA.made (M1 := 0) hg2 hN (by omega) (Ext.refl _) (Nat.zero_le _)
    rwa [hg0] at this
  have HDE : Hid (DkE n A) := hg2.at_.de (by omega)
  have hfo := hg2.at_.k.fo 0
  rw [hT] at hfo
  have HTS : Hid (∀ x, x ∈ T → x ∈ A) := fun x hx => by rw [← hT] at hx; exact (List.mem_filter.1 hx).1
  have HTL : Hid (T.length ≤ 120) := by rw [← hT]; exact Nat.le_trans (List.length_filter_le _ _) hA
  have HTD : Hid (DkE n T) := ⟨hn2, hfo.ok, hfo.up, by have := HTL.out; omega⟩
  have HTC : Hid (∀ x y, Cn (adj A) x y ↔ Cn (adj T) x y) := fun x y => by rw [← hT]; exact hg2.at_.k.joins
  have HTR : Hid (∀ W, Ext w2 W → Calls Tryz.prog 31 #[.pointer (some ⟨g0, 0, none⟩)] W fun e w' => ∃ R c, e = .returned (.slice R T.length c) ∧ EdsAt w' R T ∧ Ext W w') := fun W hW => by
    have q := gtree_any (hg2.at_.ext hW).m hg2.at_.k.ok hg2.at_.k.up (by omega)
    rw [hg0, hT] at q
    refine q.mono ?_
    rintro e w' ⟨R, c, rfl, hd, hx, _⟩
    exact ⟨R, c, rfl, (DRow.eds hd rfl).1, hx⟩
  have X2 : Hid (Ext w w2) := X1.out.trans hg2.ext
  clear hg2 hg0 hT hfo HDR
  by_cases hr : ¬ ((0 ≤ a ∧ a < n) ∧ (0 ≤ b ∧ b < n))
  · have HJ := gz_joined HZ.out a b
    have hje : jE n a b = errV 1 := by unfold jE; rw [if_neg hr]
    rw [hje] at HJ
    have HJ := Lib.hid HJ
    clear hje hr
    go_wp2_with fail
    refine HJ.out.mono ?_
    rintro e w3 ⟨rfl, hx3⟩
    have X3 : Hid (Ext w w3) := X2.out.trans hx3
    clear hx3 HJ
    go_wp2
    go_ret
    exact ⟨rfl, X3.out⟩
  have hr' := Classical.not_not.1 hr
  obtain ⟨a, rfl⟩ := Int.eq_ofNat_of_zero_le hr'.1.1
  obtain ⟨b, rfl⟩ := Int.eq_ofNat_of_zero_le hr'.2.1
  have han : a < n := by omega
  have hbn : b < n := by omega
  have HJ := gz_joined HZ.out a b
  have hje : jE n (a : Int) b = .nilIface := by unfold jE; rw [if_pos hr']
  have hjb := jB_iff (n := n) (A := A) han hbn
  rw [hje] at HJ
  obtain ⟨jb, hjb0⟩ : ∃ t, jB n A (a : Int) b = t := ⟨_, rfl⟩
  rw [hjb0] at HJ hjb
  have HJ := Lib.hid HJ
  have HJB : Hid (jb = true ↔ Cn (adj A) a b) := hjb
  clear hje hr hr' hjb hjb0
  go_wp2_with fail
  refine HJ.out.mono ?_
  rintro e w3 ⟨rfl, hx3⟩
  have X3 : Hid (Ext w2 w3) := hx3
  have HGE := Lib.hid (gz_edges (HZ.out.moved hx3))
  clear hx3 HJ
  go_wp2_with fail
  refine HGE.out.mono ?_
  rintro e w4 ⟨AA, ca, rfl, hE4, _, hx4⟩
  have X4 : Hid (Ext w2 w4) := X3.out.trans hx4
  have HE4 := Lib.hid hE4
  clear hE4 hx4 HGE X3
  go_wp2_with fail
  refine (HTR.out _ X4.out).mono ?_
  rintro e w5 ⟨AT, ct, rfl, hE5, hx5⟩
  have X5 : Hid (Ext w2 w5) := X4.out.trans hx5
  have HE5 : Hid (EdsAt w5 AA A ∧ EdsAt w5 AT T) := ⟨HE4.out.ext hx5, hE5⟩
  clear hE5 hx5 HTR HE4 X4
  go_wp2_with fail
  refine (short_w w5 HDE.out AA ca HE5.out.1 a b han hbn).mono ?_
  rintro e w6 ⟨hx6, hs6⟩
  have X6 : Hid (Ext w2 w6) := X5.out.trans hx6
  have HE6 : Hid (EdsAt w6 AA A ∧ EdsAt w6 AT T) := ⟨HE5.out.1.ext hx6, HE5.out.2.ext hx6⟩
  have HS6 := Lib.hid hs6
  have HST := Lib.hid (short_w w6 HTD.out AT ct HE6.out.2 a b han hbn)
  clear hx6 hs6 HE5 X5
  -- the two shortest ways, as one word
  have HP6 : Hid (∃ (R : Option Addr) (m cx : Nat) (er : Value), e = .returned (.tuple #[.slice R m cx, er]) ∧ ((jb = true ∧ er = .nilIface ∧ ∃ d, IsDist n A b d ∧ (m : Int) = g d a + 1 ∧ m ≤ 100) ∨ (jb = false ∧ (∃ k, er = errV k) ∧ m = 0))) := by
    rcases HS6.out with ⟨hc, k, rfl⟩ | ⟨hc, R, m, cx, d, rfl, h⟩
    · refine ⟨none, 0, 0, _, rfl, .inr ⟨?_, ⟨k, rfl⟩, rfl⟩⟩
      cases jb with
      | false => rfl
      | true => exact absurd (HJB.out.1 rfl) hc
    · exact ⟨R, m, cx, _, rfl, .inl ⟨HJB.out.2 hc, rfl, d, h⟩⟩
  obtain ⟨R6, m6, c6, er6, rfl, h6⟩ := HP6.out
  have H6 := Lib.hid h6
  clear h6 HP6 HS6
  go_wp2_with fail
  refine HST.out.mono ?_
  rintro e w7 ⟨hx7, hs7⟩
  have X7 : Hid (Ext w2 w7) := X6.out.trans hx7
  have HE7 : Hid (EdsAt w7 AA A) := HE6.out.1.ext hx7
  have HS7 := Lib.hid hs7
  clear hx7 hs7 HE6 X6 HST
  have HP7 : Hid (∃ (R : Option Addr) (m cx : Nat) (er : Value), e = .returned (.tuple #[.slice R m cx, er]) ∧ ((jb = true ∧ er6 = .nilIface ∧ er = .nilIface) ∨ (jb = false ∧ (∃ k, er6 = errV k) ∧ (∃ k, er = errV k))) ∧ m6 ≤ m ∧ m ≤ 100) := by
    rcases HS7.out with ⟨hc, k, rfl⟩ | ⟨hc, R, m, cx, d, rfl, hd, hm, hm100⟩
    · rcases H6.out with ⟨hj, _, _⟩ | ⟨hj, hk, h0⟩
      · exact absurd ((HTC.out a b).1 (HJB.out.1 hj)) hc
      · exact ⟨none, 0, 0, _, rfl, .inr ⟨hj, hk, k, rfl⟩, by omega, by omega⟩
    · rcases H6.out with ⟨hj, he, d6, hd6, hm6, _⟩ | ⟨hj, _, _⟩
      · refine ⟨R, m, cx, _, rfl, .inl ⟨hj, he, rfl⟩, ?_, hm100⟩
        have hin : ∀ u v, adj T u v → v < n := fun u v e => (adj_in HTD.out.ok e).2.1
        have h0 := (dist_cnW hd hin han).2 hc.symm
        obtain ⟨t, ht⟩ := Int.eq_ofNat_of_zero_le h0
        have := dist_more hd6 hd (fun u v e => e.elim (fun q => .inl (HTS.out _ q)) (fun q => .inr (HTS.out _ q))) t a han ht
        omega
      · have := HJB.out.2 ((HTC.out a b).2 hc)
        rw [hj] at this
        cases this
  obtain ⟨R7, m7, c7, er7, rfl, h7, hm67, hm7⟩ := HP7.out
  have H7 := Lib.hid h7
  clear h7 HP7 HS7 H6 HTC HTS HTD HTL
  have zm : ¬ (m7 : Int) < (m6 : Int) := by omega
  have zm2 : decide (m7 < m6) = false := decide_eq_false (by omega)
  have HPA : Hid (∀ W, Ext w7 W → Calls Tryz.prog 33 #[.int .i64 n, .slice AA A.length ca] W fun e w' => ∃ (R : Option Addr) (p : List Int), e = .returned (.tuple #[.slice R n n, .nilIface]) ∧ IntsAt w' R p ∧ DF.Pts n A p ∧ Ext W w') := fun W hW => by
    refine (bparts_any W n AA A.length ca A rfl (by omega) (HE7.out.ext hW)).mono ?_
    rintro e w' ⟨hx, ⟨hbad, _⟩ | ⟨_, k', R, p, hk', rfl, hI, hP⟩⟩
    · exact absurd HDE.out.enc hbad
    · obtain rfl : k' = n := by omega
      exact ⟨R, p, rfl, hI, hP, hx⟩
  go_upto_region 12 with fail
  go_cut [96] from 80 to 96 (fun s96 wx => s96 = .bool false ∧ wx = w7)
  case first =>
    as_aux_lemma =>
    rcases H7.out with ⟨hj, he6, he7⟩ | ⟨hj, ⟨k6, he6⟩, ⟨k7, he7⟩⟩
    · subst hj; subst he6; subst he7
      go_wp2
      go_meet
      exact ⟨rfl, rfl⟩
    · subst hj; subst he6; subst he7
      go_wp2
      go_meet
      exact ⟨rfl, rfl⟩
  case rest =>
    as_aux_lemma =>
    obtain ⟨rfl, hw⟩ := hcut
    have hw' := hw.symm
    subst hw'
    clear H7 zm zm2
    go_wp2_with fail
    refine (HPA.out _ (Ext.refl _)).mono ?_
    rintro e w8 ⟨Rp, p, rfl, hI8, hP, hx8⟩
    have X8 : Hid (Ext w2 w8) := X7.out.trans hx8
    have H8 : Hid (EdsAt w8 AA A ∧ IntsAt w8 Rp p) := ⟨HE7.out.ext hx8, hI8⟩
    have HPT := Lib.hid hP
    clear hI8 hP hx8 HPA HE7 X7
    go_wp2_with fail
    refine (new_yes w8 n (by omega) (by omega)).mono ?_
    rintro e w9 ⟨u, rfl, hu, hx9, hun⟩
    obtain ⟨gu, hgu⟩ : ∃ g, u.g = g := ⟨_, rfl⟩
    rw [hgu]
    have H9 : Hid (UAt w9 u n [] ∧ Ext w8 w9 ∧ (∀ k, u.fp k → w8.heap.size ≤ k) ∧ u.g = gu) := ⟨hu, hx9, hun, hgu⟩
    clear hu hx9 hun hgu
    go_wp2_with fail
    refine (tnew_ok w9 n hn2).mono ?_
    rintro e w10 ⟨F, rfl, hF, hx10, hfb, hfs⟩
    obtain ⟨fb, hfb2⟩ : ∃ g, F.fb = g := ⟨_, rfl⟩
    have H10 : Hid (WyS w8 w10 gu fb n A 0) := by
      have hz := H9.out.2.1.size
      refine ⟨[], [], n, Nat.le_refl _, ⟨⟨u, F, H9.out.2.2.2, hfb2, H9.out.1.new hx10, hF, H9.out.2.2.1, ⟨by omega, fun k hk => by have := hfs k hk; omega⟩, fun k hk => ?_⟩, H9.out.2.1.trans hx10⟩, UfS.start A⟩
      have h1 := H9.out.1.lt hk
      exact ⟨fun q => by have := hfs k q; omega, fun q => by omega⟩
    rw [hfb2]
    clear hF hx10 hfb hfs hfb2 H9
    have HCN := pts_cnt HPT.out
    obtain ⟨pc, hpc⟩ : ∃ q, PD.cnt (ldr A) n = q := ⟨_, rfl⟩
    have hpn : pc ≤ n := by
      obtain ⟨G', N', f', _, q2, _⟩ := HZ.out.g
      have := tree_len q2.at_
      omega
    rw [hpc] at HCN
    have HCN := Lib.hid HCN
    have HPC := Lib.hid hpc
    clear hpc
    go_wp2
    go_loopw [26, 27] (fun v26 v27 wr => ∃ i : Nat, i ≤ n ∧ v26 = .int .i64 (PD.cnt (fun j => decide (g p j = (j : Int))) i : Nat) ∧ v27 = .int .i64 i ∧ Hid (Ext w10 wr)) (fun _ v27 _ => n - (intOf v27).toNat)
    case atStart => exact ⟨0, Nat.zero_le _, rfl, rfl, Ext.refl _⟩
    case round =>
      as_aux_lemma =>
      obtain ⟨i, hi, rfl, rfl, HR⟩ := hrel
      have hcl := PD.cnt_le (fun j => decide (g p j = (j : Int))) i
      have hcs : PD.cnt (fun j => decide (g p j = (j : Int))) (i + 1) = PD.cnt (fun j => decide (g p j = (j : Int))) i + if decide (g p i = (i : Int)) = true then 1 else 0 := rfl
      obtain ⟨q, hq⟩ : ∃ q, PD.cnt (fun j => decide (g p j = (j : Int))) i = q := ⟨_, rfl⟩
      rw [hq] at hcs hcl
      rw [hq]
      by_cases c : i < n
      · obtain ⟨x, hx⟩ : ∃ x, p[i]? = some x := ⟨_, List.getElem?_eq_getElem (by rw [HPT.out.len]; exact c)⟩
        have hgx : g p i = x := by simp [PD.g, List.getD_eq_getElem?_getD, hx]
        rw [hgx] at hcs
        rcases (H8.out.2.ext H10.out.ext).ext HR.out with h0 | ⟨bp, op, rfl, _, hc⟩
        · subst h0; simp at hx
        have d0 := hc i x hx
        have z2 : (0 : Int) ≤ (i : Int) := by omega
        have z3 : (i : Int) < (n : Int) := by omega
        have HX : Hid (Ext w10 wr) := HR.out
        have HCS := Lib.hid hcs
        clear hc hx hgx HR hcs hq
        by_cases e : x = (i : Int)
        · have e1 : (x == (i : Int)) = true := by rw [beq_iff_eq]; exact e
          have HV : Hid (PD.cnt (fun j => decide (g p j = (j : Int))) (i + 1) = q + 1) := by rw [Hid, HCS.out, if_pos (by simpa using e)]
          clear e HCS
          go_wp2
          go_roundw
          case rel => exact ⟨i + 1, by omega, by rw [HV.out]; go_num, by go_num, HX.out⟩
          case measure => simp [intOf]; omega
        · have e1 : (x == (i : Int)) = false := by rw [beq_eq_false_iff_ne]; exact e
          have HV : Hid (PD.cnt (fun j => decide (g p j = (j : Int))) (i + 1) = q) := by rw [Hid, HCS.out, if_neg (by simpa using e)]; rfl
          clear e HCS
          go_wp2
          go_roundw
          case rel => exact ⟨i + 1, by omega, by rw [HV.out], by go_num, HX.out⟩
          case measure => simp [intOf]; omega
      · obtain rfl : i = n := by omega
        obtain rfl : q = pc := by rw [← hq]; exact HCN.out
        have R0 := Lib.hid (H10.out.moved HR.out)
        clear hcl hcs hq HR HCN c
        go_wp2
        go_loopw [28] (fun v28 wr => ∃ k : Nat, k ≤ A.length ∧ v28 = .int .i64 k ∧ Hid (WyS w8 wr gu fb i A k)) (fun v28 _ => A.length - (intOf v28).toNat)
        case atStart => exact ⟨0, Nat.zero_le _, rfl, R0.out⟩
        case round =>
          as_aux_lemma =>
          obtain ⟨k, hk, rfl, HR⟩ := hrel
          clear R0
          by_cases c : k < A.length
          · obtain ⟨bs, off, rfl, hbs, ⟨x1, x2⟩, hx, p1, p2⟩ := eds_at (H8.out.1.ext HR.out.ext) c
            simp only at p1 p2
            have hxo := HDE.out.ok _ (List.mem_of_getElem? hx)
            simp only at hxo
            obtain ⟨u1, rfl⟩ := Int.eq_ofNat_of_zero_le hxo.1
            obtain ⟨v1, rfl⟩ := Int.eq_ofNat_of_zero_le (show 0 ≤ x2 by omega)
            have hu1 : u1 < i := by omega
            have hv1 : v1 < i := by omega
            have HC : Hid (∀ W, Ext w8 W → Ext w8 W ∧ W.cell? ⟨bs, off + k * 2, none⟩ = some (.int .i64 (u1 : Nat)) ∧ W.cell? ⟨bs, off + k * 2 + 1, none⟩ = some (.int .i64 (v1 : Nat))) := fun W hW => by
              rcases H8.out.1.ext hW with h0 | ⟨b', off', he, hb', hc'⟩
              · subst h0; simp at c
              · injection he with he
                injection he with e1 e2
                subst e1; subst e2
                exact ⟨hW, hc' k _ hx⟩
            have HX := Lib.hid hx
            have HJN := Lib.hid (fun W (hW : Ext wr W) => (HR.out.moved hW).join hu1 hv1)
            have hE0 : Ext w8 wr := HR.out.ext
            have z2 : (0 : Int) ≤ (k : Int) := by omega
            have z3 : (k : Int) < (A.length : Int) := by omega
            clear hx hxo HR
            go_wp2_with fail
            go_region_held3 (fun W => Ext w8 W ∧ W.cell? ⟨bs, off + k * 2, none⟩ = some (.int .i64 (u1 : Nat)) ∧ W.cell? ⟨bs, off + k * 2 + 1, none⟩ = some (.int .i64 (v1 : Nat)))
              (exact HC.out _ (by first | assumption | exact Ext.trans hE0 (Ext.drew _) | exact fst_ (by assumption) | exact Ext.trans (fst_ (by assumption)) (by assumption)))
              (first
                | (go_at_call 36; refine (HJN.out _ (Ext.drew _)).mono ?_; rintro e w11 ⟨⟨v, rfl⟩, h11⟩; have H11 := Lib.hid h11; have hF11 : Ext w8 w11 := h11.ext; clear h11)
                | fail)
            rename_i hHeld
            have k1 := (HC.out _ hF11).2.1
            have k2 := (HC.out _ hF11).2.2
            have HLN := Lib.hid (fun W (hW : Ext w11 W) => (H11.out.moved hW).link (by omega) hu1 hv1 HX.out)
            clear hHeld HJN p1 p2 hE0
            go_wp2_with fail
            go_region_held3 (fun W => Ext w8 W ∧ W.cell? ⟨bs, off + k * 2, none⟩ = some (.int .i64 (u1 : Nat)) ∧ W.cell? ⟨bs, off + k * 2 + 1, none⟩ = some (.int .i64 (v1 : Nat)))
              (exact HC.out _ (by first | assumption | exact Ext.trans hF11 (Ext.drew _) | exact fst_ (by assumption) | exact Ext.trans (fst_ (by assumption)) (by assumption)))
              (first
                | (go_at_call 37; refine (HLN.out _ (Ext.drew _)).mono ?_; rintro e w12 ⟨⟨v, rfl⟩, h12⟩; have H12 := Lib.hid h12; have hF12 : Ext w8 w12 := h12.ext; clear h12)
                | fail)
            rename_i hHeld2
            clear hHeld2 HLN HC hF11 hF12 k1 k2 H11
            go_wp2
            go_roundw
            case rel => exact ⟨k + 1, by omega, by go_num, H12.out⟩
            case measure => simp [intOf]; omega
          · obtain rfl : k = A.length := by omega
            have HWW : Hid (Ext w w8) := X2.out.trans X8.out
            have HGS := Lib.hid (fun W (hW : Ext w8 W) => gz_size ((HZ.out.moved X8.out).moved hW) a han)
            have HGP : Hid (∀ W, Ext w8 W → Calls Tryz.prog 22 #[.pointer (some ⟨g0, 0, none⟩)] W fun e w' => e = .returned (.int .i64 (q : Nat)) ∧ Ext W w') := fun W hW => by
              have := gz_parts ((HZ.out.moved X8.out).moved hW)
              rwa [HPC.out] at this
            have HUP : Hid (∀ W, Ext wr W → Calls Tryz.prog 41 #[.pointer (some ⟨gu, 0, none⟩)] W fun e w' => e = .returned (.int .i64 (q : Nat)) ∧ Ext W w') := fun W hW => by
              have := (HR.out.moved hW).parts_u
              rwa [HPC.out] at this
            have HFE : Hid (∀ W, Ext wr W → Calls Tryz.prog 42 #[.pointer (some ⟨fb, 0, none⟩)] W fun e w' => ∃ R L c, e = .returned (.slice R L c) ∧ q + L = i ∧ Ext W w') := fun W hW => by
              have := (HR.out.moved hW).edges
              rwa [HPC.out] at this
            obtain ⟨xa, hxa⟩ : ∃ x, p[a]? = some x := ⟨_, List.getElem?_eq_getElem (by rw [HPT.out.len]; exact han)⟩
            obtain ⟨xb, hxb⟩ : ∃ x, p[b]? = some x := ⟨_, List.getElem?_eq_getElem (by rw [HPT.out.len]; exact hbn)⟩
            have hga : g p a = xa := by simp [PD.g, List.getD_eq_getElem?_getD, hxa]
            have hgb : g p b = xb := by simp [PD.g, List.getD_eq_getElem?_getD, hxb]
            have hj2 := HPT.out.joined han hbn
            rw [hga, hgb] at hj2
            have hj3 := hj2.trans HJB.out.symm
            have HXJ : Hid ((xa == xb) = jb) := by
              cases jb with
              | true => exact beq_iff_eq.2 (hj3.2 rfl)
              | false => exact beq_eq_false_iff_ne.2 (fun h => by simpa using hj3.1 h)
            obtain ⟨bp, op, rfl, hbp, hcp⟩ : ∃ bp op, Rp = some ⟨bp, op, none⟩ ∧ bp < w8.heap.size ∧ ∀ i v, p[i]? = some v → w8.cell? ⟨bp, op + i, none⟩ = some (.int .i64 v) := by
              rcases H8.out.2 with h0 | h0
              · subst h0; simp at hxa
              · exact h0
            have HC : Hid (∀ W, Ext w8 W → Ext w8 W ∧ W.cell? ⟨bp, op + a, none⟩ = some (.int .i64 xa) ∧ W.cell? ⟨bp, op + b, none⟩ = some (.int .i64 xb)) := fun W hW =>
              ⟨hW, (hW.cell (p := ⟨bp, _, none⟩) hbp).trans (hcp a xa hxa), (hW.cell (p := ⟨bp, _, none⟩) hbp).trans (hcp b xb hxb)⟩
            have HS1 := Lib.hid (HR.out.same_u han hbn HJB.out)
            have hE0 : Ext w8 wr := HR.out.ext
            have HRR := Lib.hid HR
            clear hxa hxb hga hgb hj2 hj3 hbp hcp HR
            go_wp2_with fail
            refine HS1.out.mono ?_
            rintro e w11 ⟨rfl, hx11⟩
            have X11 : Hid (Ext wr w11) := hx11
            have HS2 := Lib.hid ((HRR.out.out.moved hx11).same_f han hbn HJB.out)
            clear hx11 HS1
            go_wp2_with fail
            refine HS2.out.mono ?_
            rintro e w12 ⟨rfl, hx12⟩
            have X12 : Hid (Ext wr w12) := X11.out.trans hx12
            have HS3 := Lib.hid ((HRR.out.out.moved X12.out).size han)
            clear hx12 HS2
            obtain ⟨K1, hK1⟩ : ∃ x, (comp i A a).length = x := ⟨_, rfl⟩
            rw [hK1] at HS3 HGS
            go_wp2_with fail
            refine HS3.out.mono ?_
            rintro e w13 ⟨rfl, hx13⟩
            have X13 : Hid (Ext wr w13) := X12.out.trans hx13
            clear hx13 HS3
            go_wp2_with fail
            refine (HGS.out _ (hE0.trans X13.out)).mono ?_
            rintro e w14 ⟨rfl, hx14⟩
            have X14 : Hid (Ext wr w14) := X13.out.trans hx14
            clear hx14 HGS
            have k0 : Ext wr w14 := X14.out
            have k1 := (HC.out _ (hE0.trans k0)).2.1
            have k2 := (HC.out _ (hE0.trans k0)).2.2
            have za : (0 : Int) ≤ (a : Int) := by omega
            have zb : (0 : Int) ≤ (b : Int) := by omega
            have za2 : (a : Int) < (i : Int) := by omega
            have zb2 : (b : Int) < (i : Int) := by omega
            have hK : ((K1 : Int) == (K1 : Int)) = true := beq_self_eq_true _
            have hQ : ((q : Int) == (q : Int)) = true := beq_self_eq_true _
            have HS : Hid (∀ W, Ext wr W → Ext wr W ∧ W.cell? ⟨bp, op + a, none⟩ = some (.int .i64 xa) ∧ W.cell? ⟨bp, op + b, none⟩ = some (.int .i64 xb)) := fun W hW => ⟨hW, (HC.out _ (hE0.trans hW)).2⟩
            have HFX : Hid (∀ W, Ext wr W → Ext w W) := fun W hW => HWW.out.trans (hE0.trans hW)
            have HGP1 : Hid (∀ W, Ext wr W → Calls Tryz.prog 22 #[.pointer (some ⟨g0, 0, none⟩)] W fun e w' => e = .returned (.int .i64 (q : Nat)) ∧ Ext W w') := fun W hW => HGP.out W (hE0.trans hW)
            have ex : (xa == xb) = jb := HXJ.out
            clear HC HGP HRR HWW HPC HPT H8 HZ X2 X8 HJB HXJ hE0 X11 X12 X13 X14
            cases jb
            all_goals
              go_wp2_with fail
              go_region_held3 (fun W => Ext wr W ∧ W.cell? ⟨bp, op + a, none⟩ = some (.int .i64 xa) ∧ W.cell? ⟨bp, op + b, none⟩ = some (.int .i64 xb))
                (exact HS.out _ (by first | assumption | exact Ext.trans k0 (Ext.drew _) | exact fst_ (by assumption) | exact Ext.trans (fst_ (by assumption)) (by assumption)))
                (first
                  | (go_at_call 22; refine (HGP1.out _ (fst_ (by assumption))).mono ?_; rintro e w15 ⟨rfl, h15⟩)
                  | (go_at_call 41; refine (HUP.out _ (fst_ (by assumption))).mono ?_; rintro e w15 ⟨rfl, h15⟩)
                  | (go_at_call 42; refine (HFE.out _ (fst_ (by assumption))).mono ?_; rintro e w15 ⟨R, L, c, rfl, hL, h15⟩)
                  | fail)
              rename_i hHeld
              have hF := HFX.out _ hHeld.1
              clear hHeld
              go_wp2
              go_ret
              refine ⟨?_, hF⟩
              refine congrArg (fun t => Ending.returned (Value.bool t)) (?_ : (_ : Bool) = true)
              exact ways_fin (by assumption) hn2.2
end Go.Proofs.YthgniehfejklhaaGreat
