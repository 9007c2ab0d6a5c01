/-
  Walk of the references' BytesOf. Condition: the edges lie in memory as 'EdsAt' says, without a fault.
-/
import Derived.Test.YtakjakglkfhaaaaDoorNt4
import Derived.Deep.RegionHeld3
namespace Go.Proofs.YtakjakglkfhaaaaDoor
open Go Go.RowKit
set_option linter.unusedVariables false
def BoPost (w : World) (n : Int) (l : List AK.Ed) (e : Ending) (w' : World) : Prop := Ext w w' ∧ ∃ A c, e = .returned (.slice A (2 + 2 * l.length) c) ∧ BytesAt w' A (NT.encL n l) ∧ 2 + 2 * l.length ≤ c ∧ c ≤ maxLen
set_option maxHeartbeats 8000000 in
set_option maxRecDepth 100000 in
theorem bytesOf_any (w : World) (n : Int) (A : Option Addr) (m c : Nat) (l : List AK.Ed) (hl : l.length = m) (h : EdsAt w A l) (hz : (edgF n l).2 = 0) :
    Calls Tryd.prog 9 #[.int .i64 n, .slice A m c] w (BoPost w n l) := by
  have H := Lib.hid h
  have HL := Lib.hid hl
  have HZ := Lib.hid hz
  have hq := fine_of hz
  have n1 := hq.1
  have n2 := hq.2.1
  have m2 : m ≤ 200 := by have := hq.2.2.1; omega
  clear h hl hz hq
  go_enter Tryd.func9, Tryd.ntmps9
  go_upto_region 2 with fail
  have HO : Hid ((w.alloc (.cells #[.int .u8 n, .int .u8 (m : Nat)] 5)).ownsRow 0 5 1 (.slice (some ⟨w.heap.size, 0, none⟩) 2 2) 2 [.int .u8 n, .int .u8 (m : Nat)]) := own_fresh rfl 5 [.int .u8 n, .int .u8 (m : Nat)] (show 2 ≤ maxLen by decide)
  have HBA : Hid (Below w.heap.size w (w.alloc (.cells #[.int .u8 n, .int .u8 (m : Nat)] 5))) := Ext.alloc _ _
  generalize w.alloc (.cells #[.int .u8 n, .int .u8 (m : Nat)] 5) = w2 at HO HBA ⊢
  go_wp2
  go_loopw [5, 6] (fun v5 v6 wr => ∃ (k g c8 : Nat), k ≤ m ∧ v6 = .int .i64 k ∧ v5 = .slice (some ⟨g, 0, none⟩) (2 + 2 * k) c8 ∧ Hid (EnR w n l k (some ⟨g, 0, none⟩) c8 wr)) (fun _ v6 _ => m - (intOf v6).toNat)
  case atStart => exact ⟨0, w.heap.size, 2, by omega, rfl, rfl, by have := HO.out; have h2 := HL.out; subst h2; exact this, HBA.out, fun j hj => by simp [Value.ownBlock] at hj; omega⟩
  case round =>
    obtain ⟨k, g, c8, hk, rfl, rfl, HR⟩ := hrel
    by_cases hkm : k < m
    · obtain ⟨x, hx⟩ : ∃ x, l[k]? = some x := ⟨_, List.getElem?_eq_getElem (by have := HL.out; omega)⟩
      obtain ⟨bs, off, rfl, hbs, hcs⟩ : ∃ b off, A = some ⟨b, off, none⟩ ∧ b < w.heap.size ∧ ∀ (i : Nat) (x : AK.Ed), l[i]? = some x → w.cell? ⟨b, off + i * 2, none⟩ = some (.int .i64 x.1) ∧ w.cell? ⟨b, off + i * 2 + 1, none⟩ = some (.int .i64 x.2) := by
        rcases H.out with h0 | h0
        · rw [h0] at hx; simp at hx
        · exact h0
      have a0 := (HR.out.2.1.cell (p := ⟨bs, off + k * 2, none⟩) hbs).trans (hcs k x hx).1
      have a1 := (HR.out.2.1.cell (p := ⟨bs, off + k * 2 + 1, none⟩) hbs).trans (hcs k x hx).2
      obtain ⟨x1, x2⟩ := x
      simp only at a0 a1
      have hxr : 0 ≤ x1 ∧ x1 < x2 ∧ x2 < n := (fine_of HZ.out).2.2.2 k _ hx
      have z1 : (0 : Int) ≤ x1 := hxr.1
      have z2 : x1 < 256 := by omega
      have z3 : (0 : Int) ≤ x2 := by omega
      have z4 : x2 < 256 := by omega
      have y1 : IntKind.u8.wrap x1 = x1 := by simp [IntKind.wrap, IntKind.signed, IntKind.bits]; omega
      have y2 : IntKind.u8.wrap x2 = x2 := by simp [IntKind.wrap, IntKind.signed, IntKind.bits]; omega
      have HTK : Hid (NT.encP (l.take (k + 1)) = NT.encP (l.take k) ++ [x1, x2]) := NT.encP_take hx
      have k0 : (0 : Int) ≤ (k : Int) := by omega
      have k1 : (k : Int) < (m : Int) := by omega
      have hk2 : 2 + 2 * k + 2 = 2 + 2 * (k + 1) := by omega
      have HSTEP : Hid (∀ (g9 c9 : Nat) (w9 : World), w9.ownsRow 0 5 1 (.slice (some ⟨g9, 0, none⟩) (2 + 2 * k + 2) c9) (2 + 2 * k + 2) ((n :: (l.length : Int) :: NT.encP (l.take k)).map (Value.int .u8) ++ [.int .u8 x1, .int .u8 x2]) → Chg (fun j => (Value.slice (some ⟨g, 0, none⟩) (2 + 2 * k) c8).ownBlock = some j) (wr.alloc (.cells #[.int .u8 x1, .int .u8 x2] 5)).drew w9 → (∀ j, (Value.slice (some ⟨g9, 0, none⟩) (2 + 2 * k + 2) c9).ownBlock = some j → (Value.slice (some ⟨g, 0, none⟩) (2 + 2 * k) c8).ownBlock = some j ∨ j = (wr.alloc (.cells #[.int .u8 x1, .int .u8 x2] 5)).drew.heap.size) → EnR w n l (k + 1) (some ⟨g9, 0, none⟩) c9 w9) := by
        intro g9 c9 w9 ho9 hc9 hg9
        rw [hk2] at ho9 hg9
        have hsz : w.heap.size ≤ (wr.alloc (.cells #[.int .u8 x1, .int .u8 x2] 5)).drew.heap.size := (HR.out.2.1.alloc HR.out.2.1.size _).size
        refine ⟨by rw [HTK.out]; simpa using ho9, (HR.out.2.1.alloc HR.out.2.1.size _).trans (Chg.below (Chg.undrew hc9) hsz (fun i _ hi => HR.out.2.2 i hi)), fun i hi => ?_⟩
        rcases hg9 i hi with h | h
        · exact HR.out.2.2 _ h
        · rw [h]; exact hsz
      have HKEEP : Hid (∀ (o : Nat) (x : Int) (w9 : World), Chg (fun j => (Value.slice (some ⟨g, 0, none⟩) (2 + 2 * k) c8).ownBlock = some j) (wr.alloc (.cells #[.int .u8 x1, .int .u8 x2] 5)).drew w9 → wr.cell? ⟨bs, o, none⟩ = some (.int .i64 x) → w9.cell? ⟨bs, o, none⟩ = some (.int .i64 x)) := by
        intro o x w9 hc9 hp
        have hb2 : bs < wr.heap.size := Nat.lt_of_lt_of_le hbs HR.out.2.1.size
        have h2 := ((Below.refl wr.heap.size wr).alloc (Nat.le_refl _) (.cells #[.int .u8 x1, .int .u8 x2] 5)).cell (p := ⟨bs, o, none⟩) hb2
        refine (hc9.cell (p := ⟨bs, o, none⟩) ?_ (fun h => by have h3 := HR.out.2.2 _ h; simp only at h3; omega)).trans (h2.trans hp)
        simp; omega
      clear hx hcs hxr hk2
      go_wp2_with fail
      go_region_held3 (fun w' => w'.cell? ⟨bs, off + k * 2, none⟩ = some (.int .i64 x1) ∧ w'.cell? ⟨bs, off + k * 2 + 1, none⟩ = some (.int .i64 x2)) (go_keep)
        (go_loud (refine step_pushes _ (by rfl) (.tmp 19) (.tmp 32) 23 (by rfl) 5 (.int .u8 0) 1 Tryd.underlying23 infoU8 (by rfl) g c8 (2 + 2 * k) _ (by rfl) (own_drew (own_chg HR.out.1 ((Chg.refl (fun _ => False) _).alloc _) (fun _ _ h => h))) 2 (by omega) ⟨by omega, by omega⟩ [.int .u8 x1, .int .u8 x2] wr.heap.size (by rfl) (by rfl) (news_cells rfl [.int .u8 x1, .int .u8 x2] _) (by simp [Value.oneCell']) ?_; intro g9 c9 w9 ho9 hc9 hg9 _; have HN := Lib.hid (HSTEP.out g9 c9 w9 ho9 hc9 hg9); have q1 : w9.cell? ⟨bs, off + k * 2, none⟩ = some (.int .i64 x1) := HKEEP.out _ _ w9 hc9 a0; have q2 : w9.cell? ⟨bs, off + k * 2 + 1, none⟩ = some (.int .i64 x2) := HKEEP.out _ _ w9 hc9 a1; clear ho9 hc9 hg9))
      have hk2 : 2 + 2 * k + 2 = 2 + 2 * (k + 1) := by omega
      go_wp2
      go_roundw
      case rel => exact ⟨k + 1, _, _, by omega, by go_num, by rw [hk2], HN.out⟩
      case measure => simp [intOf]; omega
    · obtain rfl : k = m := by omega
      have hlk : Hid (l.length = k) := HL.out
      go_wp2
      go_ret
      obtain ⟨A9, c9, hv, hle⟩ := own_slice3 HR.out.1
      have hcm := own_capmax HR.out.1
      injection hv with hA _ hc
      subst hA; subst hc
      refine ⟨HR.out.2.1, some ⟨g, 0, none⟩, c8, by rw [hlk.out]; rfl, ?_, by rw [hlk.out]; exact hle, hcm⟩
      have hb := bytes_of_own HR.out.1
      rwa [List.take_of_length_le (by rw [hlk.out]; exact Nat.le_refl _)] at hb
end Go.Proofs.YtakjakglkfhaaaaDoor
