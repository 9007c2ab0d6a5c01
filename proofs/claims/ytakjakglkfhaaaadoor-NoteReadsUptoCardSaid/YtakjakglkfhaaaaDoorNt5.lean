/-
  Walk of note.Decode. Conditions: the bytes lie in memory as 'BytesAt' says, each is a byte.
-/
import Derived.Test.YtakjakglkfhaaaaDoorNt4
import Derived.Test.YtakjakglkfhaaaaDoorNt2
namespace Go.Proofs.YtakjakglkfhaaaaDoor
open Go Go.RowKit
set_option linter.unusedVariables false

/-- One's own row of edges is read. -/
theorem eds_own {w : World} {A : Option Addr} {n c : Nat} {l : List AK.Ed} (h : w.ownsRow 0 63 2 (.slice A n c) n (rowsOf edC l)) : EdsAt w A l := by
  obtain ⟨h1, h2⟩ := h
  rcases h2 with ⟨_, h0⟩ | ⟨g, cap, cur, hv, _, hg, _, _, _, ht⟩
  · subst h0
    cases l with
    | nil => left; rfl
    | cons x r => simp [rowsOf, edC] at h1
  · injection hv with hA _ _
    have hb : Blk w g 63 cur := hg
    have key : ∀ (j : Nat) (u : Value), (rowsOf edC l)[j]? = some u → w.cell? ⟨g, j, none⟩ = some u := fun j u hu => by
      rw [hb.cell, ← Array.getElem?_toList]
      rw [← ht, List.getElem?_take] at hu
      split at hu
      · exact hu
      · simp at hu
    refine .inr ⟨g, 0, hA, (Array.getElem?_eq_some_iff.1 hg).1, fun i x hx => ?_⟩
    have r0 := key _ _ (rowsOf_get (f := edC) (S := 2) (fun a _ => edC_len a) hx (j := 0) rfl)
    have r1 := key _ _ (rowsOf_get (f := edC) (S := 2) (fun a _ => edC_len a) hx (j := 1) rfl)
    rw [Nat.zero_add]
    exact ⟨r0, r1⟩
def DcNo (w : World) (e : Ending) (w' : World) : Prop := e = .returned (.tuple #[.int .i64 0, .slice none 0 0, errOf 5]) ∧ Ext w w'
theorem dec_ev : (Tryd.f13).results.size = 3 := by kernel_rfl
set_option maxHeartbeats 4000000 in
set_option maxRecDepth 100000 in
theorem decode_bad (w : World) (A : Option Addr) (m c : Nat) (xs : List Int) (hl : xs.length = m) (hm : m ≤ maxLen) (h : BytesAt w A xs) (hb : ∀ x ∈ xs, 0 ≤ x ∧ x < 256)
    (hs : m < 2 ∨ ∃ v, xs[1]? = some v ∧ (m : Int) ≠ 2 + 2 * v) :
    Calls Tryd.prog 13 #[.slice A m c] w (DcNo w) := by
  have hm' : (m : Int) ≤ 9223372036854775807 := by simp only [maxLen] at hm; omega
  by_cases h2 : (m : Int) < 2
  · clear hs h hb hm
    go_enter Tryd.func13, Tryd.ntmps13
    go_wp2
    go_ret3
    exact ⟨rfl, Ext.refl _⟩
  · obtain ⟨v, hv, hne⟩ := hs.resolve_left (by omega)
    obtain ⟨b, off, rfl, hlt, c1⟩ := h.at_ hv
    have hv1 := hb v (List.mem_of_getElem? hv)
    have v0 := hv1.1
    have v1 := hv1.2
    have h1m : (1 : Int) < (m : Int) := by omega
    clear hs h hb hm hv hv1
    go_enter Tryd.func13, Tryd.ntmps13
    go_wp2
    go_ret3
    exact ⟨rfl, Ext.refl _⟩
/-- How far Decode's loop has come. -/
def DcR (w : World) (l : List AK.Ed) (j : Nat) (A : Option Addr) (c : Nat) (wr : World) : Prop :=
  wr.ownsRow 0 63 2 (.slice A j c) j (rowsOf edC (l.take j)) ∧ Below w.heap.size w wr ∧ ∀ i, (Value.slice A j c).ownBlock = some i → w.heap.size ≤ i
/-- What Decode answers of bytes of the right shape. -/
def DcPost (w : World) (a : Int) (l : List AK.Ed) (e : Ending) (w' : World) : Prop := Ext w w' ∧
  (((edgF a l).2 ≠ 0 ∧ e = .returned (.tuple #[.int .i64 0, .slice none 0 0, errOf 5])) ∨
   ((edgF a l).2 = 0 ∧ ∃ A c, e = .returned (.tuple #[.int .i64 a, .slice A l.length c, .nilIface]) ∧ EdsAt w' A l))
set_option maxHeartbeats 8000000 in
set_option maxRecDepth 100000 in
theorem decode_enc (w : World) (A : Option Addr) (m c k : Nat) (a : Int) (l : List AK.Ed) (hk : l.length = k) (hk2 : k ≤ 255) (hm : m = 2 + 2 * k) (h : BytesAt w A (NT.encL a l)) (ha : 0 ≤ a ∧ a < 256) (hb : ∀ x ∈ l, 0 ≤ x.1 ∧ x.1 < 256 ∧ 0 ≤ x.2 ∧ x.2 < 256) :
    Calls Tryd.prog 13 #[.slice A m c] w (DcPost w a l) := by
  have hca : (NT.encL a l)[0]? = some a := rfl
  have hck : (NT.encL a l)[1]? = some (k : Int) := by rw [← hk]; rfl
  obtain ⟨b, off, rfl, hlt, c0⟩ := h.at_ hca
  have c1 : w.cell? ⟨b, off + 1, none⟩ = some (.int .u8 (k : Nat)) := by
    obtain ⟨b', off', e, _, c1⟩ := h.at_ hck
    injection e with e; injection e with e1 e2; subst e1; subst e2; exact c1
  have HP : Hid (∀ (i : Nat) (x : AK.Ed), l[i]? = some x → w.cell? ⟨b, off + (2 + 2 * i), none⟩ = some (.int .u8 x.1) ∧ w.cell? ⟨b, off + (2 + 2 * i + 1), none⟩ = some (.int .u8 x.2)) := by
    intro i x hx
    have h1 := NT.encL_at (n := a) hx
    obtain ⟨b1, off1, e1, _, p1⟩ := h.at_ h1.1
    obtain ⟨b2, off2, e2, _, p2⟩ := h.at_ h1.2
    injection e1 with e1; injection e1 with e11 e12; subst e11; subst e12
    injection e2 with e2; injection e2 with e21 e22; subst e21; subst e22
    exact ⟨p1, p2⟩
  have HB := Lib.hid hb
  have HK := Lib.hid hk
  have a0 := ha.1
  have a1 := ha.2
  rw [Nat.add_zero] at c0
  have hmi : (m : Int) = 2 + 2 * (k : Int) := by omega
  have hm2 : ¬ (m : Int) < 2 := by omega
  have hm1 : (1 : Int) < (m : Int) := by omega
  have hm0 : (0 : Int) < (m : Int) := by omega
  have hmm : (m : Int) ≤ 600 := by omega
  have HM := Lib.hid hm
  clear h hb hk ha hca hck hm
  go_enter Tryd.func13, Tryd.ntmps13
  go_wp2
  clear hmi
  go_loopw [5, 6] (fun v5 v6 wr => ∃ (j i : Nat) (A5 : Option Addr) (c5 : Nat), Hid (i = 2 + 2 * j ∧ j ≤ k) ∧ v6 = .int .i64 (i : Nat) ∧ v5 = .slice A5 j c5 ∧ Hid (DcR w l j A5 c5 wr)) (fun _ v6 _ => m - (intOf v6).toNat)
  case atStart => exact ⟨0, 2, none, 0, ⟨by omega, Nat.zero_le _⟩, rfl, rfl, World.ownsRow_nil _ _ _ _, Below.refl _ _, fun j hj => by simp [Value.ownBlock] at hj⟩
  case round =>
    obtain ⟨j, i, A5, c5, hi, rfl, rfl, HR⟩ := hrel
    have hi1 := hi.out.1
    have hi2 := hi.out.2
    have hmm2 := HM.out
    by_cases hj : j < k
    · obtain ⟨x, hx⟩ : ∃ x, l[j]? = some x := ⟨_, List.getElem?_eq_getElem (by have := HK.out; omega)⟩
      have hxb := HB.out x (List.mem_of_getElem? hx)
      have p1 := (HR.out.2.1.cell (p := ⟨b, off + (2 + 2 * j), none⟩) hlt).trans (HP.out j x hx).1
      have p2 := (HR.out.2.1.cell (p := ⟨b, off + (2 + 2 * j + 1), none⟩) hlt).trans (HP.out j x hx).2
      rw [← hi1] at p1 p2
      obtain ⟨x1, x2⟩ := x
      simp only at p1 p2 hxb
      have b1 := hxb.1
      have b2 := hxb.2.1
      have b3 := hxb.2.2.1
      have b4 := hxb.2.2.2
      have HTK : Hid (rowsOf edC (l.take (j + 1)) = rowsOf edC (l.take j) ++ edC (x1, x2)) := by
        unfold Hid; rw [List.take_add_one, hx, rowsOf_app]; simp [rowsOf]
      have z0 : (0 : Int) ≤ (i : Int) := by omega
      have z1 : (i : Int) < (m : Int) := by omega
      have z2 : (i : Int) + 1 < (m : Int) := by omega
      have z3 : (i : Int) ≤ 600 := by omega
      have hjl : j ≤ 1000 := by omega
      have zw : IntKind.i64.wrap ((i : Int) + 1) = (i : Int) + 1 := IntWalk.i64_in _ (by omega)
      have y1 : IntKind.i64.wrap x1 = x1 := IntWalk.i64_in _ (by omega)
      have y2 : IntKind.i64.wrap x2 = x2 := IntWalk.i64_in _ (by omega)
      have z5 : (0 : Int) ≤ (i : Int) + 1 := by omega
      have zt : ((i : Int) + 1).toNat = i + 1 := by omega
      have HL := Lib.hid hlt
      have HJ : Hid (i + 2 = 2 + 2 * (j + 1) ∧ j + 1 ≤ k) := ⟨by omega, by omega⟩
      have HSTEP : Hid (∀ (g9 c9 : Nat) (w9 : World), w9.ownsRow 0 63 2 (.slice (some ⟨g9, 0, none⟩) (j + 1) c9) (j + 1) (rowsOf edC (l.take j) ++ [.int .i64 x1, .int .i64 x2]) → Chg (fun k => (Value.slice A5 j c5).ownBlock = some k) (wr.alloc (.cells #[.int .i64 x1, .int .i64 x2] 63)).drew w9 → ((Value.slice A5 j c5).ownBlock = some g9 ∨ g9 = (wr.alloc (.cells #[.int .i64 x1, .int .i64 x2] 63)).drew.heap.size) → DcR w l (j + 1) (some ⟨g9, 0, none⟩) c9 w9) := by
        intro g9 c9 w9 ho9 hc9 hg9
        have hsz : w.heap.size ≤ (wr.alloc (.cells #[.int .i64 x1, .int .i64 x2] 63)).drew.heap.size := (HR.out.2.1.alloc HR.out.2.1.size _).size
        refine ⟨by rw [HTK.out]; exact ho9, (HR.out.2.1.alloc HR.out.2.1.size _).trans (Chg.below (Chg.undrew hc9) hsz (fun i _ hi => HR.out.2.2 i hi)), fun i hi => ?_⟩
        simp [Value.ownBlock] at hi
        subst hi
        rcases hg9 with h | h
        · exact HR.out.2.2 _ h
        · rw [h]; exact hsz
      have HKEEP : Hid (∀ (o : Nat) (x : Int) (w9 : World), Chg (fun k => (Value.slice A5 j c5).ownBlock = some k) (wr.alloc (.cells #[.int .i64 x1, .int .i64 x2] 63)).drew w9 → wr.cell? ⟨b, o, none⟩ = some (.int .u8 x) → w9.cell? ⟨b, o, none⟩ = some (.int .u8 x)) := by
        intro o x w9 hc9 hp
        have hb2 : b < wr.heap.size := Nat.lt_of_lt_of_le hlt HR.out.2.1.size
        have h2 := ((Below.refl wr.heap.size wr).alloc (Nat.le_refl _) (.cells #[.int .i64 x1, .int .i64 x2] 63)).cell (p := ⟨b, o, none⟩) hb2
        refine (hc9.cell (p := ⟨b, o, none⟩) ?_ (fun h => by have h3 := HR.out.2.2 _ h; simp only at h3; omega)).trans (h2.trans hp)
        simp; omega
      clear hx hxb hi hi1 hi2 hmm2
      go_wp2_with fail
      go_region_held3 (fun w' => w'.cell? ⟨b, off + i, none⟩ = some (.int .u8 x1) ∧ w'.cell? ⟨b, off + (i + 1), none⟩ = some (.int .u8 x2)) (go_keep)
        (go_loud (refine step_pushS _ (by rfl) (.tmp 30) (.tmp 43) 22 (by rfl) 63 (.agg #[.int .i64 0, .int .i64 0]) 2 16 Tryd.underlying22 infoEdge (by rfl) (by decide) (.slice A5 j c5) j _ (by rfl) (own_drew (own_chg HR.out.1 ((Chg.refl (fun _ => False) _).alloc _) (fun _ _ h => h))) ⟨by omega, by omega⟩ [.int .i64 x1, .int .i64 x2] wr.heap.size (by rfl) (by rfl) (news_cells rfl [.int .i64 x1, .int .i64 x2] _) (by simp [Value.oneCell']) ?_; intro g9 c9 w9 ho9 hc9 hg9; have HN := Lib.hid (HSTEP.out g9 c9 w9 ho9 hc9 hg9); have q1 : w9.cell? ⟨b, off + i, none⟩ = some (.int .u8 x1) := HKEEP.out _ _ w9 hc9 p1; have q2 : w9.cell? ⟨b, off + (i + 1), none⟩ = some (.int .u8 x2) := HKEEP.out _ _ w9 hc9 p2; clear ho9 hc9 hg9))
      go_wp2
      go_roundw
      case rel => exact ⟨j + 1, i + 2, _, _, HJ.out, by go_num, rfl, HN.out⟩
      case measure => simp [intOf]; omega
    · obtain rfl : j = k := by omega
      have him : i = m := by omega
      subst him
      obtain ⟨hrow, hbel, hown⟩ := HR.out
      rw [List.take_of_length_le (by rw [HK.out]; exact Nat.le_refl _)] at hrow
      have HE := Lib.hid (eds_own hrow)
      have HBEL := Lib.hid hbel
      have cc0 := (hbel.cell (p := ⟨b, off, none⟩) hlt).trans c0
      have hj9 : j ≤ 9223372036854775807 := by omega
      have CK : Hid (Calls Tryd.prog 21 #[.int .i64 a, .slice A5 j c5] wr (CkPost wr (edgF a l))) := check_any wr a A5 j c5 l HK.out hj9 HE.out
      have CC : Hid (∀ w' : World, Ext wr w' → w'.cell? ⟨b, off, none⟩ = some (.int .u8 a)) := fun w' h => (h.cell (p := ⟨b, off, none⟩) (Nat.lt_of_lt_of_le hlt HBEL.out.size)).trans cc0
      clear hrow hbel hown hi hi1 hi2 hmm2 HR c0 c1
      go_wp2_with fail
      refine CK.out.mono ?_
      rintro e w1 ⟨rfl, hx1⟩
      have HX1 := Lib.hid hx1
      have cc1 := CC.out w1 hx1
      clear hx1
      by_cases hz : (edgF a l).2 = 0
      · have HZ := Lib.hid hz
        rw [hz, errOf_0]
        clear hz
        go_wp2
        go_ret3
        exact ⟨Ext.trans HBEL.out HX1.out, .inr ⟨HZ.out, A5, c5, by rw [HK.out]; rfl, HE.out.ext HX1.out⟩⟩
      · have HZ := Lib.hid hz
        rw [errOf_ne hz]
        clear hz
        go_wp2
        go_ret3
        exact ⟨Ext.trans HBEL.out HX1.out, .inl ⟨HZ.out, rfl⟩⟩
end Go.Proofs.YtakjakglkfhaaaaDoor
