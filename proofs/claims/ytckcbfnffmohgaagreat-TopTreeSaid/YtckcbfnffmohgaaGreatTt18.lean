/-
  Walk of desk.build: a graph of edges that rise. Condition: the edges lie in memory as 'EdsAt' says.
  Walk of desk's Graph. Condition: the desk's block and its graph lie as said.
  What an event does to a desk's graph: desk.of and its four acts. Conditions: the graph lies as 'GcS' says; the event's numbers are int's.
  Plain: events done one behind the other on a list of edges, up to the first that is wrong. No program here; no conditions.
-/
import Derived.Test.YtckcbfnffmohgaaGreatTt16
import Derived.Test.YtckcbfnffmohgaaGreatTt17
import Derived.Deep.RegionHeld3
import Derived.Test.YtckcbfnffmohgaaGreatTt6
namespace Go.Proofs.YtckcbfnffmohgaaGreat
open Go Go.RowKit SQ TR DF PD PT
set_option linter.unusedVariables false

/-- What build leaves. -/
def BuPost (w : World) (n : Nat) (l : List AK.Ed) (e : Ending) (w' : World) : Prop := ∃ (G : GrP) (f : AK.Ed → GM.St), e = .returned (.tuple #[.pointer (some ⟨G.gb, 0, none⟩), .nilIface]) ∧ GcS w w' G n (n + 2 * l.length) l f
/-- The graph so far. -/
def BuR (w wr : World) (g0 n : Nat) (l : List AK.Ed) (k : Nat) : Prop := ∃ (G : GrP) (f : AK.Ed → GM.St) (B : List AK.Ed), G.gb = g0 ∧ GcS w wr G n (n + 2 * k) B f ∧ (∀ x, x ∈ B ↔ x ∈ l.take k) ∧ B.length = k
section
variable {w wr w' : World} {g0 n k : Nat} {l : List AK.Ed}
theorem BuR.moved (h : BuR w wr g0 n l k) (hx : Ext wr w') : BuR w w' g0 n l k := by
  obtain ⟨G, f, B, h1, h2, h3⟩ := h
  exact ⟨G, f, B, h1, h2.moved hx, h3⟩
theorem BuR.ext (h : BuR w wr g0 n l k) : Ext w wr := by
  obtain ⟨G, f, B, h1, h2, h3⟩ := h
  exact h2.ext
theorem BuR.add (h : BuR w wr g0 n l k) (hn : n ≤ 60) (hk : k < 200) (hup : l.Pairwise ltE) {u v : Nat} (huv : u < v) (hvn : v < n) (hx : l[k]? = some ((u : Int), (v : Int))) :
    Calls Tryz.prog 29 #[.pointer (some ⟨g0, 0, none⟩), .int .i64 u, .int .i64 v] wr fun e w' => e = .returned .nilIface ∧ BuR w w' g0 n l (k + 1) := by
  obtain ⟨G, f, B, rfl, h2, h3, h4⟩ := h
  have hek : AK.ek (u : Int) v = ((u : Int), (v : Int)) := by unfold AK.ek; rw [Int.min_eq_left (by omega), Int.max_eq_right (by omega)]
  have e : l.take (k + 1) = l.take k ++ [((u : Int), (v : Int))] := by rw [List.take_add_one, hx]; rfl
  have hnew : AK.ek (u : Int) v ∉ B := fun q => by
    rw [hek] at q
    have h1 : (l.take (k + 1)).Nodup := (List.take_sublist _ l).nodup (rises_nodup hup)
    rw [e, List.nodup_append] at h1
    exact h1.2.2 _ ((h3 _).1 q) _ (by simp) rfl
  refine (gadd_ok h2.at_ (by omega) u v (by omega) hvn (by omega) hnew (by omega)).mono ?_
  rintro e' w' ⟨s, rfl, q1, q2⟩
  refine ⟨rfl, G, _, _, rfl, h2.step q1 q2, fun y => ?_, by rw [putE_length, h4]⟩
  rw [putE_mem, h3, e, List.mem_append, List.mem_singleton, hek]
  exact Or.comm
theorem BuR.end_ (h : BuR w wr g0 n l l.length) (hup : l.Pairwise ltE) : ∃ (G : GrP) (f : AK.Ed → GM.St), G.gb = g0 ∧ GcS w wr G n (n + 2 * l.length) l f := by
  obtain ⟨G, f, B, h1, h2, h3, h4⟩ := h
  have : B = l := rises_ext h2.at_.k.up hup fun y => by rw [h3, List.take_length]
  subst this
  exact ⟨G, f, h1, h2⟩
end
set_option maxHeartbeats 2000000 in
set_option maxRecDepth 100000 in
theorem build_ok (w : World) (n : Nat) (hn : 1 ≤ n ∧ n ≤ 60) (A : Option Addr) (m c : Nat) (l : List AK.Ed) (hl : l.length = m) (hm : m ≤ 200) (hE : EdsAt w A l) (hok : ∀ x ∈ l, 0 ≤ x.1 ∧ x.1 < x.2 ∧ x.2 < (n : Int)) (hup : l.Pairwise ltE) :
    Calls Tryz.prog 47 #[.int .i64 n, .slice A m c] w (BuPost w n l) := by
  have HE := Lib.hid hE
  have HL := Lib.hid hl
  have HOK := Lib.hid hok
  have HUP := Lib.hid hup
  clear hE hl hok hup
  go_enter Tryz.func47, Tryz.ntmps47
  go_wp2_with fail
  refine (gnew_ok w n hn).mono ?_
  intro e w1 hp
  obtain ⟨G, rfl, hgc, hx1⟩ := GcS.made (Ext.refl w) hp
  obtain ⟨g0, hg0⟩ : ∃ g, G.gb = g := ⟨_, rfl⟩
  have R0 : Hid (BuR w w1 g0 n l 0) := ⟨G, _, [], hg0, hgc, fun x => by simp, rfl⟩
  rw [hg0]
  clear hp hgc hx1 hg0
  go_wp2
  go_loopw [21] (fun v21 wr => ∃ k : Nat, k ≤ m ∧ v21 = .int .i64 k ∧ Hid (BuR w wr g0 n l k)) (fun v21 _ => m - (intOf v21).toNat)
  case atStart => exact ⟨0, Nat.zero_le _, rfl, R0.out⟩
  case round =>
    obtain ⟨k, hk, rfl, HR⟩ := hrel
    clear R0
    by_cases hlt : k < m
    · obtain ⟨b, o, rfl, hb, x, hx, g1, g2⟩ := eds_at (HE.out.ext HR.out.ext) (show k < l.length by rw [HL.out]; exact hlt)
      have hxo := HOK.out x (List.mem_of_getElem? hx)
      obtain ⟨u, hu⟩ := Int.eq_ofNat_of_zero_le hxo.1
      obtain ⟨v, hv⟩ := Int.eq_ofNat_of_zero_le (show 0 ≤ x.2 by omega)
      obtain rfl : x = ((u : Int), (v : Int)) := Prod.ext hu hv
      simp only at g1 g2 hxo
      have HXX : Hid (l[k]? = some ((u : Int), (v : Int))) := hx
      have huv : u < v := by omega
      have hvn : v < n := by omega
      have z0 : (0 : Int) ≤ (k : Int) := by omega
      have z1 : (k : Int) < (m : Int) := by omega
      clear hx hu hv hxo
      go_wp2_with fail
      have H3 := Lib.hid (HR.out.moved (Ext.alloc wr (.cells #[.int .i64 (u : Nat), .int .i64 (v : Nat)] 32)))
      refine (H3.out.add hn.2 (by omega) HUP.out huv hvn HXX.out).mono ?_
      rintro e w4 ⟨rfl, h4⟩
      have HN := Lib.hid h4
      clear h4 H3 HR HXX g1 g2
      go_wp2
      go_roundw
      case rel => exact ⟨k + 1, by omega, by go_num, HN⟩
      case measure => simp [intOf]; omega
    · obtain rfl : k = m := by omega
      have HP : Hid (∃ (G : GrP) (f : AK.Ed → GM.St), G.gb = g0 ∧ GcS w wr G n (n + 2 * l.length) l f) := by
        have h := HR.out
        rw [← HL.out] at h
        exact h.end_ HUP.out
      clear HR
      go_wp2
      go_ret2
      obtain ⟨G, f, hG, h⟩ := HP.out
      exact ⟨G, f, congrArg (fun z => Ending.returned (.tuple #[.pointer (some ⟨z, 0, none⟩), .nilIface])) hG.symm, h⟩
end Go.Proofs.YtckcbfnffmohgaaGreat
namespace Go.Proofs.YtckcbfnffmohgaaGreat
open Go Go.RowKit SQ TR DF PD PT
set_option linter.unusedVariables false

/-- What Graph leaves. -/
def DgPost (w : World) (n : Nat) (l : List AK.Ed) (e : Ending) (w' : World) : Prop := ∃ (G : GrP) (f : AK.Ed → GM.St), e = .returned (.pointer (some ⟨G.gb, 0, none⟩)) ∧ GcS w w' G n (n + 2 * l.length) l f
/-- The desk's own block. -/
def dkC (gs g0 n : Nat) : Array Value := #[.pointer (some ⟨gs, 0, none⟩), .pointer (some ⟨g0, 0, none⟩), .int .i64 n]
set_option maxHeartbeats 2000000 in
set_option maxRecDepth 100000 in
theorem dgraph_any (w : World) (kb gs n N : Nat) (G : GrP) (l : List AK.Ed) (f : AK.Ed → GM.St) (hb : Blk w kb 108 (dkC gs G.gb n)) (h : GrI w G n N l f) (hl : l.length ≤ 200) :
    Calls Tryz.prog 48 #[.pointer (some ⟨kb, 0, none⟩)] w (DgPost w n l) := by
  have hbl := hb.lt
  have HGE : Hid (∀ W, Ext w W → Calls Tryz.prog 11 #[.pointer (some ⟨G.gb, 0, none⟩)] W (EdgesPost W l)) := fun W hW => gedges_any (h.ext hW).m h.k.ok h.k.up hl
  have HC : Hid (∀ W, Ext w W → Ext w W ∧ W.cell? ⟨kb, 1, none⟩ = some (.pointer (some ⟨G.gb, 0, none⟩)) ∧ W.cell? ⟨kb, 2, none⟩ = some (.int .i64 (n : Nat))) := fun W hW => ⟨hW, (hW.cell (p := ⟨kb, 1, none⟩) hbl).trans (hb.cell 1), (hW.cell (p := ⟨kb, 2, none⟩) hbl).trans (hb.cell 2)⟩
  have HBU : Hid (∀ W A c, EdsAt W A l → Calls Tryz.prog 47 #[.int .i64 n, .slice A l.length c] W (BuPost W n l)) := fun W A c hE => build_ok W n h.m.hn A l.length c l rfl hl hE h.k.ok h.k.up
  have c1 := (HC.out w (Ext.refl w)).2.1
  have c2 := (HC.out w (Ext.refl w)).2.2
  clear h hb
  go_enter Tryz.func48, Tryz.ntmps48
  go_wp2
  go_region_held3 (fun W => Ext w W ∧ W.cell? ⟨kb, 1, none⟩ = some (.pointer (some ⟨G.gb, 0, none⟩)) ∧ W.cell? ⟨kb, 2, none⟩ = some (.int .i64 (n : Nat)))
    (exact HC.out _ (by first | exact Ext.drew _ | assumption | exact fst_ (by assumption) | exact Ext.trans (fst_ (by assumption)) (by assumption)))
    (first
      | (go_at_call 11; refine (HGE.out _ (Ext.drew _)).mono ?_; rintro e w4 ⟨A4, c4, rfl, hd4, hx4, _⟩; have hF4 : Ext w w4 := Ext.trans (Ext.drew _) hx4; have HE4 := Lib.hid (DRow.eds hd4 rfl).1; clear hd4 hx4)
      | (go_at_call 47; refine (HBU.out _ _ _ HE4.out).mono ?_; rintro e w5 ⟨G5, f5, rfl, h5⟩; have hF5 : Ext w w5 := Ext.trans hF4 h5.ext; have H5 := Lib.hid h5; clear h5)
      | fail)
  rename_i hHeld
  have HN : Hid (GcS w w5 G5 n (n + 2 * l.length) l f5) := ⟨H5.out.at_, hF5, fun k hk => Nat.le_trans hF4.size (H5.out.new k hk)⟩
  clear hHeld
  go_wp2
  go_ret
  exact ⟨G5, f5, rfl, HN.out⟩
end Go.Proofs.YtckcbfnffmohgaaGreat
namespace Go.Proofs.YtckcbfnffmohgaaGreat
open Go Go.RowKit SQ TR DF PD PT
set_option linter.unusedVariables false

namespace DS
/-- What is wrong with an event, by its number. -/
def flt (n : Nat) (A : List AK.Ed) (W x y : Int) : Nat :=
  if W < 1 ∨ 3 < W ∨ ¬ (0 ≤ x ∧ x < n) ∨ ¬ (0 ≤ y ∧ y < n) then 1
  else if W = 1 then addFault n A x y
  else if W = 2 then (if AK.ek x y ∈ A then 0 else 4)
  else 0
/-- The edges behind an event that is right. -/
def nxt (A : List AK.Ed) (W x y : Int) : List AK.Ed := if W = 1 then putE (AK.ek x y) A else if W = 2 then cutE (AK.ek x y) A else A
end DS
/-- What an act leaves. -/
def ActPost (wr : World) (G : GrP) (n N : Nat) (A : List AK.Ed) (W x y : Int) (e : Ending) (w' : World) : Prop :=
  ∃ b : Bool, e = .returned (.tuple #[.bool b, errOf (DS.flt n A W x y : Nat)]) ∧ (DS.flt n A W x y = 0 → W = 3 → (b = true ↔ Cn (adj A) x.toNat y.toNat)) ∧
    ∃ (G' : GrP) (f' : AK.Ed → GM.St), GrI w' G' n (N + 4000) (if DS.flt n A W x y = 0 then DS.nxt A W x y else A) f' ∧ GrC wr w' G G'
def actF (W : Int) : Nat := if W = 1 then 75 else if W = 2 then 76 else if W = 3 then 77 else 79
section
variable {wr w' : World} {G : GrP} {n N : Nat} {A : List AK.Ed} {f : AK.Ed → GM.St}
theorem act_add (h : GrI wr G n N A f) (hN : N + 4000 < 1000000) (x y : Int) (hx : -9223372036854775808 ≤ x ∧ x ≤ 9223372036854775807) (hy : -9223372036854775808 ≤ y ∧ y ≤ 9223372036854775807) :
    Calls Tryz.prog 29 #[.pointer (some ⟨G.gb, 0, none⟩), .int .i64 x, .int .i64 y] wr fun e w' => e = .returned (errOf (DS.flt n A 1 x y : Nat)) ∧ ∃ (G' : GrP) (f' : AK.Ed → GM.St), GrI w' G' n (N + 4000) (if DS.flt n A 1 x y = 0 then DS.nxt A 1 x y else A) f' ∧ GrC wr w' G G' := by
  have hf : DS.flt n A 1 x y = addFault n A x y := by
    unfold DS.flt
    by_cases hv : ¬ (0 ≤ x ∧ x < (n : Int)) ∨ ¬ (0 ≤ y ∧ y < (n : Int))
    · rw [if_pos (.inr (.inr hv))]; unfold addFault; rw [if_pos hv]
    · rw [if_neg (by omega), if_pos rfl]
  rw [hf]
  refine (gadd_any h (by omega) x y hx hy).mono ?_
  rintro e w' (⟨k, hk, hk0, rfl, hx'⟩ | ⟨hk, s, rfl, h1, h2⟩)
  · rw [hk, if_neg hk0]
    exact ⟨by rw [errOf_ne (by omega)], G, f, (h.ext hx').mono (by omega), GrC.of_ext hx' G⟩
  · rw [hk, if_pos rfl]
    exact ⟨rfl, G, _, h1.mono (by omega), h2⟩
theorem act_drop (h : GrI wr G n N A f) (hN : N + 4000 < 1000000) (hl : A.length ≤ 200) (x y : Int) :
    Calls Tryz.prog 28 #[.pointer (some ⟨G.gb, 0, none⟩), .int .i64 x, .int .i64 y] wr fun e w' => e = .returned (errOf (DS.flt n A 2 x y : Nat)) ∧ ∃ (G' : GrP) (f' : AK.Ed → GM.St), GrI w' G' n (N + 4000) (if DS.flt n A 2 x y = 0 then DS.nxt A 2 x y else A) f' ∧ GrC wr w' G G' := by
  refine (gdrop_any h hN hl x y).mono ?_
  rintro e w' (⟨hv, rfl, hx'⟩ | ⟨hx, hy, hm, rfl, hx'⟩ | ⟨hx, hy, hm, G', f', rfl, h1, h2, _⟩)
  · have hf : DS.flt n A 2 x y = 1 := by unfold DS.flt; rw [if_pos (.inr (.inr hv))]
    rw [hf, if_neg (by decide)]
    exact ⟨rfl, G, f, (h.ext hx').mono (by omega), GrC.of_ext hx' G⟩
  · have hf : DS.flt n A 2 x y = 4 := by unfold DS.flt; rw [if_neg (by omega), if_neg (by decide), if_pos rfl, if_neg hm]
    rw [hf, if_neg (by decide)]
    exact ⟨rfl, G, f, (h.ext hx').mono (by omega), GrC.of_ext hx' G⟩
  · have hf : DS.flt n A 2 x y = 0 := by unfold DS.flt; rw [if_neg (by omega), if_neg (by decide), if_pos rfl, if_pos hm]
    rw [hf, if_pos rfl]
    exact ⟨rfl, G', f', h1, h2⟩
theorem act_ask (h : GrI wr G n N A f) (x y : Int) :
    Calls Tryz.prog 78 #[.pointer (some ⟨G.gb, 0, none⟩), .int .i64 x, .int .i64 y] wr fun e w' => ∃ b : Bool, e = .returned (.tuple #[.bool b, errOf (DS.flt n A 3 x y : Nat)]) ∧ (DS.flt n A 3 x y = 0 → (b = true ↔ Cn (adj A) x.toNat y.toNat)) ∧ Ext wr w' := by
  by_cases hv : ¬ (0 ≤ x ∧ x < (n : Int)) ∨ ¬ (0 ≤ y ∧ y < (n : Int))
  · have hf : DS.flt n A 3 x y = 1 := by unfold DS.flt; rw [if_pos (.inr (.inr hv))]
    rw [hf]
    refine (gjoined_range h.m x y hv).mono ?_
    rintro e w' ⟨rfl, rfl⟩
    exact ⟨false, rfl, fun q => absurd q (by decide), Ext.refl _⟩
  · have hf : DS.flt n A 3 x y = 0 := by unfold DS.flt; rw [if_neg (by omega), if_neg (by decide), if_neg (by decide)]
    rw [hf]
    obtain ⟨x, rfl⟩ := Int.eq_ofNat_of_zero_le (show 0 ≤ x by omega)
    obtain ⟨y, rfl⟩ := Int.eq_ofNat_of_zero_le (show 0 ≤ y by omega)
    obtain ⟨t, ht⟩ : ∃ t : Bool, t = true ↔ Cn (adj A) x y := by classical exact ⟨decide (Cn (adj A) x y), by simp⟩
    refine (gjoined_ok h.m x y (by omega) (by omega) t (ht.trans h.k.joins)).mono ?_
    rintro e w' ⟨rfl, hx'⟩
    exact ⟨t, rfl, fun _ => ht, hx'⟩
theorem GrI.boxed (h : GrI wr G n N A f) (o : Obj) : GrI (wr.alloc o) G n N A f := h.ext (Ext.alloc wr o)
set_option maxHeartbeats 2000000 in
theorem act_any (h : GrI wr G n N A f) (hN : N + 4000 < 1000000) (hl : A.length ≤ 200) (W x y : Int) (hx : -9223372036854775808 ≤ x ∧ x ≤ 9223372036854775807) (hy : -9223372036854775808 ≤ y ∧ y ≤ 9223372036854775807) :
    Calls Tryz.prog (actF W) #[.pointer (some ⟨G.gb, 0, none⟩), .agg #[.int .i64 W, .int .i64 x, .int .i64 y]] wr (ActPost wr G n N A W x y) := by
  by_cases h1 : W = 1
  · subst h1
    have HA := Lib.hid (act_add (h.boxed (.cells #[.int .i64 1, .int .i64 x, .int .i64 y] 62)) hN x y hx hy)
    show Calls Tryz.prog 75 _ _ _
    go_enter Tryz.func75, Tryz.ntmps75
    go_wp2_with fail
    refine HA.out.mono ?_
    rintro e w4 ⟨rfl, G4, f4, h4, hc4⟩
    have H4 := Lib.hid h4
    have C4 := Lib.hid (GrC.pre (Ext.alloc wr _) hc4)
    clear h4 hc4
    go_wp2
    go_ret2
    exact ⟨false, rfl, fun _ q => absurd q (by decide), G4, f4, H4.out, C4.out⟩
  by_cases h2 : W = 2
  · subst h2
    have HA := Lib.hid (act_drop (h.boxed (.cells #[.int .i64 2, .int .i64 x, .int .i64 y] 62)) hN hl x y)
    show Calls Tryz.prog 76 _ _ _
    go_enter Tryz.func76, Tryz.ntmps76
    go_wp2_with fail
    refine HA.out.mono ?_
    rintro e w4 ⟨rfl, G4, f4, h4, hc4⟩
    have H4 := Lib.hid h4
    have C4 := Lib.hid (GrC.pre (Ext.alloc wr _) hc4)
    clear h4 hc4
    go_wp2
    go_ret2
    exact ⟨false, rfl, fun _ q => absurd q (by decide), G4, f4, H4.out, C4.out⟩
  by_cases h3 : W = 3
  · subst h3
    have HA := Lib.hid (act_ask (h.boxed (.cells #[.int .i64 3, .int .i64 x, .int .i64 y] 62)) x y)
    have HB := Lib.hid (h.boxed (.cells #[.int .i64 3, .int .i64 x, .int .i64 y] 62))
    show Calls Tryz.prog 77 _ _ _
    go_enter Tryz.func77, Tryz.ntmps77
    go_wp2_with fail
    refine HA.out.mono ?_
    rintro e w4 ⟨b, rfl, hb, h4⟩
    have H4 : Hid ((DS.flt n A 3 x y = 0 → (b = true ↔ Cn (adj A) x.toNat y.toNat)) ∧ GrI w4 G n (N + 4000) (if DS.flt n A 3 x y = 0 then DS.nxt A 3 x y else A) f ∧ GrC wr w4 G G) := by
      refine ⟨hb, ?_, GrC.of_ext ((Ext.alloc wr _).trans h4) G⟩
      have e : (if DS.flt n A 3 x y = 0 then DS.nxt A 3 x y else A) = A := by
        have : DS.nxt A 3 x y = A := by unfold DS.nxt; rw [if_neg (by decide), if_neg (by decide)]
        rw [this, ite_self]
      rw [e]
      exact (HB.out.ext h4).mono (by omega)
    clear h4 hb
    go_wp2
    go_ret2
    exact ⟨b, rfl, fun q _ => H4.out.1 q, G, f, H4.out.2.1, H4.out.2.2⟩
  · have hf : DS.flt n A W x y = 1 := by unfold DS.flt; rw [if_pos (by omega)]
    have HB : Hid (ActPost wr G n N A W x y (.returned (.tuple #[.bool false, errOf ((1 : Nat) : Int)])) (wr.alloc (.cells #[.int .i64 W, .int .i64 x, .int .i64 y] 62))) := by
      refine ⟨false, by rw [hf], fun q => ?_, G, f, ?_, GrC.of_ext (Ext.alloc wr _) G⟩
      · rw [hf] at q; exact absurd q (by decide)
      · rw [hf, if_neg (by decide)]; exact (h.boxed _).mono (by omega)
    have ha : actF W = 79 := by unfold actF; rw [if_neg h1, if_neg h2, if_neg h3]
    rw [ha]
    clear hf ha h1 h2 h3 h
    go_enter Tryz.func79, Tryz.ntmps79
    go_wp2
    go_ret2
    exact HB.out
theorem of_act (w : World) (W x y : Int) : Calls Tryz.prog 49 #[.agg #[.int .i64 W, .int .i64 x, .int .i64 y]] w fun e w' => e = .returned (.func (.func (actF W)) #[] #[]) ∧ Ext w w' := by
  by_cases h1 : W = 1
  · subst h1
    go_enter Tryz.func49, Tryz.ntmps49
    go_wp2
    go_ret
    exact ⟨rfl, Ext.alloc _ _⟩
  by_cases h2 : W = 2
  · subst h2
    go_enter Tryz.func49, Tryz.ntmps49
    go_wp2
    go_ret
    exact ⟨rfl, Ext.alloc _ _⟩
  by_cases h3 : W = 3
  · subst h3
    go_enter Tryz.func49, Tryz.ntmps49
    go_wp2
    go_ret
    exact ⟨rfl, Ext.alloc _ _⟩
  · have ha : actF W = 79 := by unfold actF; rw [if_neg h1, if_neg h2, if_neg h3]
    rw [ha]
    have q1 : (W == 1) = false := by simpa using h1
    have q2 : (W == 2) = false := by simpa using h2
    have q3 : (W == 3) = false := by simpa using h3
    clear ha h1 h2 h3
    go_enter Tryz.func49, Tryz.ntmps49
    go_wp2
    go_ret
    exact ⟨rfl, Ext.alloc _ _⟩
end
end Go.Proofs.YtckcbfnffmohgaaGreat
namespace Go.Proofs.YtckcbfnffmohgaaGreat
set_option linter.unusedVariables false
namespace DS
open AK UF DF PD TR
/-- What is answered. -/
noncomputable def ansB (A : List AK.Ed) (x y : Int) : Bool := by classical exact decide (Cn (adj A) x.toNat y.toNat)
theorem ansB_iff {A : List AK.Ed} {x y : Int} {b : Bool} (h : b = true ↔ Cn (adj A) x.toNat y.toNat) : b = ansB A x y := by
  unfold ansB
  classical
  cases b with
  | true => simpa using h.1 rfl
  | false => symm; rw [decide_eq_false_iff_not]; exact fun c => by have := h.2 c; cases this
noncomputable def out1 (A : List AK.Ed) (e : AK.Ev) : List Bool := if e.w = 3 then [ansB A e.a e.b] else []
/-- The first i events are right, and come to these edges, these answers. -/
noncomputable def run (n : Nat) (l : List AK.Ev) (A : List AK.Ed) : Nat → List AK.Ed × List Bool
  | 0 => (A, [])
  | i + 1 => match l[i]? with
    | none => run n l A i
    | some e => (nxt (run n l A i).1 e.w e.a e.b, (run n l A i).2 ++ out1 (run n l A i).1 e)
/-- The first i events are right. -/
def Okay (n : Nat) (l : List AK.Ev) (A : List AK.Ed) (i : Nat) : Prop := ∀ j e, j < i → l[j]? = some e → flt n (run n l A j).1 e.w e.a e.b = 0
section
variable {n i : Nat} {l : List AK.Ev} {A : List AK.Ed} {e : AK.Ev}
theorem Okay.zero (n : Nat) (l : List AK.Ev) (A : List AK.Ed) : Okay n l A 0 := fun j e h => absurd h (Nat.not_lt_zero _)
theorem Okay.next (h : Okay n l A i) (he : l[i]? = some e) (hf : flt n (run n l A i).1 e.w e.a e.b = 0) : Okay n l A (i + 1) := fun j d hj hd => by
  rcases Nat.lt_succ_iff_lt_or_eq.1 hj with q | q
  · exact h j d q hd
  · subst q
    rw [he] at hd
    injection hd with hd
    subst hd
    exact hf
theorem run_next (he : l[i]? = some e) : run n l A (i + 1) = (nxt (run n l A i).1 e.w e.a e.b, (run n l A i).2 ++ out1 (run n l A i).1 e) := by
  rw [run, he]
end
end DS
end Go.Proofs.YtckcbfnffmohgaaGreat
