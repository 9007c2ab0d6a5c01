/-
  Walk of the references' EdgesOf. Conditions: the bytes lie in memory as 'BytesAt' says, each is a byte.
-/
import Derived.Test.YtakjakglkfhaaaaDoorNt5
import Derived.Test.YtakjakglkfhaaaaDoorBk2
namespace Go.Proofs.YtakjakglkfhaaaaDoor
open Go Go.RowKit
set_option linter.unusedVariables false
def RoNo (w : World) (e : Ending) (w' : World) : Prop := e = .returned (.tuple #[.int .i64 0, .slice none 0 0, .int .i64 5]) ∧ Ext w w'
set_option maxHeartbeats 4000000 in
set_option maxRecDepth 100000 in
theorem edgesOf_bad (w : World) (A : Option Addr) (m c : Nat) (xs : List Int) (hl : xs.length = m) (hm : m ≤ maxLen) (h : BytesAt w A xs) (hb : ∀ x ∈ xs, 0 ≤ x ∧ x < 256)
    (hs : m < 2 ∨ ∃ v, xs[1]? = some v ∧ (m : Int) ≠ 2 + 2 * v) :
    Calls Tryd.prog 12 #[.slice A m c] w (RoNo w) := by
  have hm' : (m : Int) ≤ 9223372036854775807 := by simp only [maxLen] at hm; omega
  by_cases h2 : (m : Int) < 2
  · clear hs h hb hm
    go_enter Tryd.func12, Tryd.ntmps12
    go_wp2
    go_ret3
    exact ⟨rfl, Ext.refl _⟩
  · obtain ⟨v, hv, hne⟩ := hs.resolve_left (by omega)
    obtain ⟨x0, hx0⟩ : ∃ x, xs[0]? = some x := ⟨_, List.getElem?_eq_getElem (by omega)⟩
    obtain ⟨b, off, rfl, hlt, c1⟩ := h.at_ hv
    have c0 : w.cell? ⟨b, off, none⟩ = some (.int .u8 x0) := by
      obtain ⟨b', off', e, _, c0⟩ := h.at_ hx0
      injection e with e; injection e with e1 e2; subst e1; subst e2; exact c0
    have hx1 := hb x0 (List.mem_of_getElem? hx0)
    have x00 := hx1.1
    have x01 := hx1.2
    have h0m : (0 : Int) < (m : Int) := by omega
    have hv1 := hb v (List.mem_of_getElem? hv)
    have v0 := hv1.1
    have v1 := hv1.2
    have h1m : (1 : Int) < (m : Int) := by omega
    clear hs h hb hm hv hv1 hx0 hx1
    go_enter Tryd.func12, Tryd.ntmps12
    go_wp2
    go_ret3
    exact ⟨rfl, Ext.refl _⟩
/-- What Decode answers of bytes of the right shape. -/
def RoPost (w : World) (a : Int) (l : List AK.Ed) (e : Ending) (w' : World) : Prop := Ext w w' ∧
  (((edgF a l).2 ≠ 0 ∧ e = .returned (.tuple #[.int .i64 0, .slice none 0 0, .int .i64 5])) ∨
   ((edgF a l).2 = 0 ∧ ∃ A c, e = .returned (.tuple #[.int .i64 a, .slice A l.length c, .int .i64 0]) ∧ EdsAt w' A l))
set_option maxHeartbeats 8000000 in
set_option maxRecDepth 100000 in
theorem edgesOf_enc (w : World) (A : Option Addr) (m c k : Nat) (a : Int) (l : List AK.Ed) (hk : l.length = k) (hk2 : k ≤ 255) (hm : m = 2 + 2 * k) (h : BytesAt w A (NT.encL a l)) (ha : 0 ≤ a ∧ a < 256) (hb : ∀ x ∈ l, 0 ≤ x.1 ∧ x.1 < 256 ∧ 0 ≤ x.2 ∧ x.2 < 256) :
    Calls Tryd.prog 12 #[.slice A m c] w (RoPost w a l) := by
  have hca : (NT.encL a l)[0]? = some a := rfl
  have hck : (NT.encL a l)[1]? = some (k : Int) := by rw [← hk]; rfl
  obtain ⟨b, off, rfl, hlt, c0⟩ := h.at_ hca
  have c1 : w.cell? ⟨b, off + 1, none⟩ = some (.int .u8 (k : Nat)) := by
    obtain ⟨b', off', e, _, c1⟩ := h.at_ hck
    injection e with e; injection e with e1 e2; subst e1; subst e2; exact c1
  have HP : Hid (∀ (i : Nat) (x : AK.Ed), l[i]? = some x → w.cell? ⟨b, off + (2 + 2 * i), none⟩ = some (.int .u8 x.1) ∧ w.cell? ⟨b, off + (2 + 2 * i + 1), none⟩ = some (.int .u8 x.2)) := by
    intro i x hx
    have h1 := NT.encL_at (n := a) hx
    obtain ⟨b1, off1, e1, _, p1⟩ := h.at_ h1.1
    obtain ⟨b2, off2, e2, _, p2⟩ := h.at_ h1.2
    injection e1 with e1; injection e1 with e11 e12; subst e11; subst e12
    injection e2 with e2; injection e2 with e21 e22; subst e21; subst e22
    exact ⟨p1, p2⟩
  have HB := Lib.hid hb
  have HK := Lib.hid hk
  have a0 := ha.1
  have a1 := ha.2
  rw [Nat.add_zero] at c0
  have hmi : (m : Int) = 2 + 2 * (k : Int) := by omega
  have hm2 : ¬ (m : Int) < 2 := by omega
  have hm1 : (1 : Int) < (m : Int) := by omega
  have hm0 : (0 : Int) < (m : Int) := by omega
  have hmm : (m : Int) ≤ 600 := by omega
  have HM := Lib.hid hm
  have HC1 := Lib.hid c1
  clear h hb hk ha hca hck hm
  go_enter Tryd.func12, Tryd.ntmps12
  go_wp2
  clear hmi
  go_loopw [6, 7] (fun v5 v6 wr => ∃ (j : Nat) (A5 : Option Addr) (c5 : Nat), j ≤ k ∧ v6 = .int .i64 (j : Nat) ∧ v5 = .slice A5 j c5 ∧ Hid (DcR w l j A5 c5 wr)) (fun _ v6 _ => k - (intOf v6).toNat)
  case atStart => exact ⟨0, none, 0, Nat.zero_le _, rfl, rfl, World.ownsRow_nil _ _ _ _, Below.refl _ _, fun j hj => by simp [Value.ownBlock] at hj⟩
  case round =>
    obtain ⟨j, A5, c5, hi2, rfl, rfl, HR⟩ := hrel
    have hmm2 := HM.out
    have cw : ∀ o : Nat, o = off + 1 → wr.cell? ⟨b, o, none⟩ = some (.int .u8 (k : Nat)) := fun o h => by subst h; exact (HR.out.2.1.cell (p := ⟨b, off + 1, none⟩) hlt).trans HC1.out
    have cw1 : wr.cell? ⟨b, off + 1, none⟩ = some (.int .u8 (k : Nat)) := cw _ rfl
    by_cases hj : j < k
    · obtain ⟨x, hx⟩ : ∃ x, l[j]? = some x := ⟨_, List.getElem?_eq_getElem (by have := HK.out; omega)⟩
      have hxb := HB.out x (List.mem_of_getElem? hx)
      have p1 := (HR.out.2.1.cell (p := ⟨b, off + (2 + 2 * j), none⟩) hlt).trans (HP.out j x hx).1
      have p2 := (HR.out.2.1.cell (p := ⟨b, off + (2 + 2 * j + 1), none⟩) hlt).trans (HP.out j x hx).2
      obtain ⟨x1, x2⟩ := x
      simp only at p1 p2 hxb
      have b1 := hxb.1
      have b2 := hxb.2.1
      have b3 := hxb.2.2.1
      have b4 := hxb.2.2.2
      have HTK : Hid (rowsOf edC (l.take (j + 1)) = rowsOf edC (l.take j) ++ edC (x1, x2)) := by
        unfold Hid; rw [List.take_add_one, hx, rowsOf_app]; simp [rowsOf]
      have z0 : (0 : Int) ≤ (j : Int) := by omega
      have z00 : (j : Int) < (k : Int) := by omega
      have z1 : 2 + 2 * (j : Int) < (m : Int) := by omega
      have z2 : 3 + 2 * (j : Int) < (m : Int) := by omega
      have z3 : (0 : Int) ≤ 2 + 2 * (j : Int) := by omega
      have z4 : (0 : Int) ≤ 3 + 2 * (j : Int) := by omega
      have hjl : j ≤ 1000 := by omega
      have zw0 : IntKind.i64.wrap (2 * (j : Int)) = 2 * (j : Int) := IntWalk.i64_in _ (by omega)
      have zw1 : IntKind.i64.wrap (2 + 2 * (j : Int)) = 2 + 2 * (j : Int) := IntWalk.i64_in _ (by omega)
      have zw2 : IntKind.i64.wrap (3 + 2 * (j : Int)) = 3 + 2 * (j : Int) := IntWalk.i64_in _ (by omega)
      have zt1 : (2 + 2 * (j : Int)).toNat = 2 + 2 * j := by omega
      have zt2 : (3 + 2 * (j : Int)).toNat = 2 + 2 * j + 1 := by omega
      have y1 : IntKind.i64.wrap x1 = x1 := IntWalk.i64_in _ (by omega)
      have y2 : IntKind.i64.wrap x2 = x2 := IntWalk.i64_in _ (by omega)
      have HL := Lib.hid hlt
      have HSTEP : Hid (∀ (g9 c9 : Nat) (w9 : World), w9.ownsRow 0 63 2 (.slice (some ⟨g9, 0, none⟩) (j + 1) c9) (j + 1) (rowsOf edC (l.take j) ++ [.int .i64 x1, .int .i64 x2]) → Chg (fun k => (Value.slice A5 j c5).ownBlock = some k) (wr.alloc (.cells #[.int .i64 x1, .int .i64 x2] 63)).drew w9 → ((Value.slice A5 j c5).ownBlock = some g9 ∨ g9 = (wr.alloc (.cells #[.int .i64 x1, .int .i64 x2] 63)).drew.heap.size) → DcR w l (j + 1) (some ⟨g9, 0, none⟩) c9 w9) := by
        intro g9 c9 w9 ho9 hc9 hg9
        have hsz : w.heap.size ≤ (wr.alloc (.cells #[.int .i64 x1, .int .i64 x2] 63)).drew.heap.size := (HR.out.2.1.alloc HR.out.2.1.size _).size
        refine ⟨by rw [HTK.out]; exact ho9, (HR.out.2.1.alloc HR.out.2.1.size _).trans (Chg.below (Chg.undrew hc9) hsz (fun i _ hi => HR.out.2.2 i hi)), fun i hi => ?_⟩
        simp [Value.ownBlock] at hi
        subst hi
        rcases hg9 with h | h
        · exact HR.out.2.2 _ h
        · rw [h]; exact hsz
      have HKEEP : Hid (∀ (o : Nat) (x : Int) (w9 : World), Chg (fun k => (Value.slice A5 j c5).ownBlock = some k) (wr.alloc (.cells #[.int .i64 x1, .int .i64 x2] 63)).drew w9 → wr.cell? ⟨b, o, none⟩ = some (.int .u8 x) → w9.cell? ⟨b, o, none⟩ = some (.int .u8 x)) := by
        intro o x w9 hc9 hp
        have hb2 : b < wr.heap.size := Nat.lt_of_lt_of_le hlt HR.out.2.1.size
        have h2 := ((Below.refl wr.heap.size wr).alloc (Nat.le_refl _) (.cells #[.int .i64 x1, .int .i64 x2] 63)).cell (p := ⟨b, o, none⟩) hb2
        refine (hc9.cell (p := ⟨b, o, none⟩) ?_ (fun h => by have h3 := HR.out.2.2 _ h; simp only at h3; omega)).trans (h2.trans hp)
        simp; omega
      clear hx hxb hmm2 cw
      go_wp2_with fail
      go_region_held3 (fun w' => w'.cell? ⟨b, off + (2 + 2 * j), none⟩ = some (.int .u8 x1) ∧ w'.cell? ⟨b, off + (2 + 2 * j + 1), none⟩ = some (.int .u8 x2)) (go_keep)
        (go_loud (refine step_pushS _ (by rfl) (.tmp 34) (.tmp 50) 22 (by rfl) 63 (.agg #[.int .i64 0, .int .i64 0]) 2 16 Tryd.underlying22 infoEdge (by rfl) (by decide) (.slice A5 j c5) j _ (by rfl) (own_drew (own_chg HR.out.1 ((Chg.refl (fun _ => False) _).alloc _) (fun _ _ h => h))) ⟨by omega, by omega⟩ [.int .i64 x1, .int .i64 x2] wr.heap.size (by rfl) (by rfl) (news_cells rfl [.int .i64 x1, .int .i64 x2] _) (by simp [Value.oneCell']) ?_; intro g9 c9 w9 ho9 hc9 hg9; have HN := Lib.hid (HSTEP.out g9 c9 w9 ho9 hc9 hg9); have q1 : w9.cell? ⟨b, off + (2 + 2 * j), none⟩ = some (.int .u8 x1) := HKEEP.out _ _ w9 hc9 p1; have q2 : w9.cell? ⟨b, off + (2 + 2 * j + 1), none⟩ = some (.int .u8 x2) := HKEEP.out _ _ w9 hc9 p2; clear ho9 hc9 hg9))
      go_wp2
      go_roundw
      case rel => exact ⟨j + 1, _, _, by omega, by go_num, rfl, HN.out⟩
      case measure => simp [intOf]; omega
    · obtain rfl : j = k := by omega
      obtain ⟨hrow, hbel, hown⟩ := HR.out
      rw [List.take_of_length_le (by rw [HK.out]; exact Nat.le_refl _)] at hrow
      have HE := Lib.hid (eds_own hrow)
      have HBEL := Lib.hid hbel
      have cc0 := (hbel.cell (p := ⟨b, off, none⟩) hlt).trans c0
      have hj9 : j ≤ 9223372036854775807 := by omega
      have CK := Lib.hid (edgesFault_any wr a A5 j c5 l HK.out hj9 HE.out)
      clear cc0 hrow hbel hown hmm2 HR c0 c1 cw
      go_wp2_with fail
      refine CK.out.mono ?_
      rintro e w1 ⟨rfl, hx1⟩
      have HX1 : Hid (Ext wr w1) := hx1
      clear hx1
      by_cases hz : (edgF a l).2 = 0
      · have HZ := Lib.hid hz
        rw [hz]
        clear hz
        go_wp2
        go_ret3
        exact ⟨Ext.trans HBEL.out HX1.out, .inr ⟨HZ.out, A5, c5, by rw [HK.out]; rfl, HE.out.ext HX1.out⟩⟩
      · have HZ := Lib.hid hz
        obtain ⟨z, hzz⟩ : ∃ z, (edgF a l).2 = z := ⟨_, rfl⟩
        rw [hzz] at hz ⊢
        clear hzz
        go_wp2
        go_ret3
        exact ⟨Ext.trans HBEL.out HX1.out, .inl ⟨HZ.out, rfl⟩⟩
end Go.Proofs.YtakjakglkfhaaaaDoor
