/-
  Edges as bytes, in plain Lean; walk of note.Encode. Condition: the edges lie in memory as 'EdsAt' says.
-/
import Derived.Test.YtakjakglkfhaaaaDoorBk1
import Derived.Test.YtakjakglkfhaaaaDoorPf0
import Derived.Test.YtakjakglkfhaaaaDoorByt
import Derived.Test.YtakjakglkfhaaaaDoorMem2
namespace Go.Proofs.YtakjakglkfhaaaaDoor
open Go Go.RowKit
set_option linter.unusedVariables false

namespace NT
def encP (l : List AK.Ed) : List Int := l.flatMap fun x => [x.1, x.2]
def encL (n : Int) (l : List AK.Ed) : List Int := n :: (l.length : Int) :: encP l
theorem encP_len : ∀ l : List AK.Ed, (encP l).length = 2 * l.length
  | [] => rfl
  | x :: r => by simp only [encP, List.flatMap_cons] at *; have := encP_len r; simp only [encP] at this; simp [this]; omega
theorem encL_len (n : Int) (l : List AK.Ed) : (encL n l).length = 2 + 2 * l.length := by simp [encL, encP_len]; omega
theorem encP_snoc (l : List AK.Ed) (x : AK.Ed) : encP (l ++ [x]) = encP l ++ [x.1, x.2] := by simp [encP]
theorem encP_take {l : List AK.Ed} {i : Nat} {x : AK.Ed} (h : l[i]? = some x) : encP (l.take (i + 1)) = encP (l.take i) ++ [x.1, x.2] := by
  rw [List.take_add_one, h]; exact encP_snoc _ _
theorem encP_at : ∀ {l : List AK.Ed} {i : Nat} {x : AK.Ed}, l[i]? = some x → (encP l)[2 * i]? = some x.1 ∧ (encP l)[2 * i + 1]? = some x.2
  | y :: r, 0, x, h => by
    obtain rfl : y = x := by simpa using h
    exact ⟨rfl, rfl⟩
  | y :: r, i + 1, x, h => by
    have h1 := encP_at (l := r) (i := i) (x := x) (by simpa using h)
    have h2 : encP (y :: r) = y.1 :: y.2 :: encP r := rfl
    rw [h2, show 2 * (i + 1) = 2 * i + 1 + 1 by omega]
    simpa using h1
theorem encL_at {n : Int} {l : List AK.Ed} {i : Nat} {x : AK.Ed} (h : l[i]? = some x) : (encL n l)[2 + 2 * i]? = some x.1 ∧ (encL n l)[2 + 2 * i + 1]? = some x.2 := by
  have h1 := encP_at h
  unfold encL
  rw [show 2 + 2 * i = 2 * i + 1 + 1 by omega]
  simpa using h1
end NT
theorem infoU8 : (Tryd.prog.info? 5).map (fun i => (i.zero, i.size, i.bytes)) = some (some (.int .u8 0), 1, 1) := by kernel_rfl
/-- What Encode answers. -/
def EnPost (w : World) (n : Int) (l : List AK.Ed) (e : Ending) (w' : World) : Prop := Ext w w' ∧
  (((edgF n l).2 ≠ 0 ∧ e = .returned (.tuple #[.slice none 0 0, errOf (edgF n l).2])) ∨
   ((edgF n l).2 = 0 ∧ ∃ A c, e = .returned (.tuple #[.slice A (2 + 2 * l.length) c, .nilIface]) ∧ BytesAt w' A (NT.encL n l) ∧ 2 + 2 * l.length ≤ c ∧ c ≤ maxLen ∧ ∀ x, A = some x → w.heap.size ≤ x.block))
/-- How far Encode's loop has come. -/
def EnR (w : World) (n : Int) (l : List AK.Ed) (k : Nat) (A : Option Addr) (c : Nat) (wr : World) : Prop :=
  wr.ownsRow 0 5 1 (.slice A (2 + 2 * k) c) (2 + 2 * k) ((n :: (l.length : Int) :: NT.encP (l.take k)).map (Value.int .u8)) ∧ Below w.heap.size w wr ∧ ∀ j, (Value.slice A (2 + 2 * k) c).ownBlock = some j → w.heap.size ≤ j

set_option maxHeartbeats 8000000 in
set_option maxRecDepth 100000 in
theorem encode_any (w : World) (n : Int) (A : Option Addr) (m c : Nat) (l : List AK.Ed) (hl : l.length = m) (hm : m ≤ 9223372036854775807) (h : EdsAt w A l) :
    Calls Tryd.prog 10 #[.int .i64 n, .slice A m c] w (EnPost w n l) := by
  have H := Lib.hid h
  have HL := Lib.hid hl
  have CK : Hid (Calls Tryd.prog 21 #[.int .i64 n, .slice A m c] w (CkPost w (edgF n l))) := check_any w n A m c l hl hm h
  clear h hl
  by_cases hz : (edgF n l).2 = 0
  · have HZ := Lib.hid hz
    have hq : Hid (1 ≤ n ∧ n ≤ 60 ∧ m ≤ 200) := by have h1 := fine_of hz; have := HL.out; exact ⟨h1.1, h1.2.1, by omega⟩
    have n1 := hq.out.1
    have n2 := hq.out.2.1
    have m2 := hq.out.2.2
    clear hq
    go_enter Tryd.func10, Tryd.ntmps10
    go_upto_region 2 with fail
    refine CK.out.mono ?_
    rintro e w1 ⟨rfl, hx1⟩
    have HX1 := Lib.hid hx1
    rw [hz]
    have e0 : errOf 0 = .nilIface := rfl
    rw [e0]
    clear hz hx1
    go_upto_region 5 with fail
    have HO : Hid ((w1.alloc (.cells #[.int .u8 n, .int .u8 (m : Nat)] 5)).ownsRow 0 5 1 (.slice (some ⟨w1.heap.size, 0, none⟩) 2 2) 2 [.int .u8 n, .int .u8 (m : Nat)]) := own_fresh rfl 5 [.int .u8 n, .int .u8 (m : Nat)] (show 2 ≤ maxLen by decide)
    have HBA : Hid (Below w.heap.size w (w1.alloc (.cells #[.int .u8 n, .int .u8 (m : Nat)] 5))) := Ext.trans HX1.out (Ext.alloc _ _)
    have hsz : w.heap.size ≤ w1.heap.size := HX1.out.size
    generalize w1.alloc (.cells #[.int .u8 n, .int .u8 (m : Nat)] 5) = w2 at HO HBA ⊢
    go_wp2
    go_loopw [8, 28] (fun v8 v28 wr => ∃ (k : Nat) (A8 : Option Addr) (c8 : Nat), k ≤ m ∧ v28 = .int .i64 k ∧ v8 = .slice A8 (2 + 2 * k) c8 ∧ Hid (EnR w n l k A8 c8 wr)) (fun _ v28 _ => m - (intOf v28).toNat)
    case atStart => exact ⟨0, some ⟨w1.heap.size, 0, none⟩, 2, by omega, rfl, rfl, by have := HO.out; have h2 := HL.out; subst h2; exact this, HBA.out, fun j hj => by simp [Value.ownBlock] at hj; omega⟩
    case round =>
      obtain ⟨k, A8, c8, hk, rfl, rfl, HR⟩ := hrel
      by_cases hkm : k < m
      · obtain ⟨x, hx⟩ : ∃ x, l[k]? = some x := ⟨_, List.getElem?_eq_getElem (by have := HL.out; omega)⟩
        obtain ⟨bs, off, rfl, hbs, hcs⟩ : ∃ b off, A = some ⟨b, off, none⟩ ∧ b < w.heap.size ∧ ∀ (i : Nat) (x : AK.Ed), l[i]? = some x → w.cell? ⟨b, off + i * 2, none⟩ = some (.int .i64 x.1) ∧ w.cell? ⟨b, off + i * 2 + 1, none⟩ = some (.int .i64 x.2) := by
          rcases H.out with h0 | h0
          · rw [h0] at hx; simp at hx
          · exact h0
        have a0 := (HR.out.2.1.cell (p := ⟨bs, off + k * 2, none⟩) hbs).trans (hcs k x hx).1
        have a1 := (HR.out.2.1.cell (p := ⟨bs, off + k * 2 + 1, none⟩) hbs).trans (hcs k x hx).2
        obtain ⟨x1, x2⟩ := x
        simp only at a0 a1
        have hxr : 0 ≤ x1 ∧ x1 < x2 ∧ x2 < n := (fine_of HZ.out).2.2.2 k _ hx
        have z1 : (0 : Int) ≤ x1 := hxr.1
        have z2 : x1 < 256 := by omega
        have z3 : (0 : Int) ≤ x2 := by omega
        have z4 : x2 < 256 := by omega
        have HTK : Hid (NT.encP (l.take (k + 1)) = NT.encP (l.take k) ++ [x1, x2]) := NT.encP_take hx
        have k0 : (0 : Int) ≤ (k : Int) := by omega
        have k1 : (k : Int) < (m : Int) := by omega
        have HRO : Hid ((wr.alloc (.cells #[.int .i64 x1, .int .i64 x2] 63)).ownsRow 0 5 1 (.slice A8 (2 + 2 * k) c8) (2 + 2 * k) ((n :: (l.length : Int) :: NT.encP (l.take k)).map (Value.int .u8))) := own_chg HR.out.1 ((Chg.refl (fun _ => False) _).alloc _) (fun _ _ h => h)
        have HRB : Hid (Below w.heap.size w (wr.alloc (.cells #[.int .i64 x1, .int .i64 x2] 63))) := HR.out.2.1.alloc HR.out.2.1.size _
        have HRW := Lib.hid HR.out.2.2
        have DD := Lib.hid (Blk.new wr 63 #[.int .i64 x1, .int .i64 x2])
        clear hx hcs hxr HR
        go_upto_region 8 with fail
        generalize wr.alloc (.cells #[.int .i64 x1, .int .i64 x2] 63) = w3 at HRO HRB DD ⊢
        have d0 : w3.cell? ⟨wr.heap.size, 0, none⟩ = some (.int .i64 x1) := DD.out.cell 0
        have d1 : w3.cell? ⟨wr.heap.size, 1, none⟩ = some (.int .i64 x2) := DD.out.cell 1
        go_wp2_with (at_builtin; refine wpList_append_rows _ rfl (.tmp 32) (.tmp 39) 23 rfl 5 _ 1 1 Tryd.underlying23 infoU8 rfl (by decide) (.slice A8 (2 + 2 * k) c8) (2 + 2 * k) _ rfl (own_chg HRO.out ((Chg.refl (fun _ => False) _).alloc _) (fun _ _ h => h)) (some ⟨w3.heap.size, 0, none⟩) 2 2 [.int .u8 x1, .int .u8 x2] rfl rfl (fun h => by cases h) (fun ad h => by injection h with h; subst h; exact news_cells rfl _ _) (by simp [Value.oneCell']) ⟨by omega, by omega⟩ ?_; intro A5 c5 w5 ho5 hc5 hat5; have HO5 := Lib.hid ho5; have HC5 := Lib.hid hc5; have HT5 := Lib.hid hat5; clear ho5 hc5 hat5)
        have hk2 : 2 + 2 * k + 2 = 2 + 2 * (k + 1) := by omega
        rw [hk2] at HO5 HT5 ⊢
        have HO6 : Hid (w5.ownsRow 0 5 1 (.slice A5 (2 + 2 * (k + 1)) c5) (2 + 2 * (k + 1)) ((n :: (l.length : Int) :: NT.encP (l.take (k + 1))).map (Value.int .u8))) := by
          have := HO5.out
          unfold Hid; rw [HTK.out]; simpa using this
        have HB5 : Hid (Below w.heap.size w w5) := (HRB.out.alloc HRB.out.size _).trans (HC5.out.below (HRB.out.alloc HRB.out.size _).size (fun j _ hj => HRW.out j hj))
        have HG5 : Hid (∀ j, (Value.slice A5 (2 + 2 * (k + 1)) c5).ownBlock = some j → w.heap.size ≤ j) := by
          intro j hj
          rcases HT5.out j hj with h | h
          · exact HRW.out _ h
          · have := HRB.out.size; rw [h]; simp; omega
        go_roundw
        case rel => exact ⟨k + 1, A5, c5, by omega, by go_num, rfl, HO6.out, HB5.out, HG5.out⟩
        case measure => simp [intOf]; omega
      · obtain rfl : k = m := by omega
        have hlk : Hid (l.length = k) := HL.out
        go_wp2
        go_ret2
        obtain ⟨A9, c9, hv, hle⟩ := own_slice3 HR.out.1
        have hcm := own_capmax HR.out.1
        injection hv with hA _ hc
        subst hA; subst hc
        refine ⟨HR.out.2.1, .inr ⟨HZ.out, A8, c8, by rw [hlk.out]; rfl, ?_, by rw [hlk.out]; exact hle, hcm, fun x hx => HR.out.2.2 _ (by subst hx; rfl)⟩⟩
        have hb := bytes_of_own HR.out.1
        rwa [List.take_of_length_le (by rw [hlk.out]; exact Nat.le_refl _)] at hb
  · have HZ := Lib.hid hz
    obtain ⟨x, hx⟩ : ∃ x : Int, errOf (edgF n l).2 = .iface 26 (.int .i64 x) := ⟨_, errOf_ne hz⟩
    have HE := Lib.hid hx
    go_enter Tryd.func10, Tryd.ntmps10
    go_upto_region 2 with fail
    refine CK.out.mono ?_
    rintro e w1 ⟨rfl, hx1⟩
    have HX1 := Lib.hid hx1
    rw [hx]
    clear hz hx hx1
    go_wp2
    go_ret2
    exact ⟨HX1.out, .inl ⟨HZ.out, by rw [HE.out]; rfl⟩⟩
end Go.Proofs.YtakjakglkfhaaaaDoor
