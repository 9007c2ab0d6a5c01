/-
  span.grow, at whatever closure of which is known what it does at an edge that joins (Each). Conditions: the edges may be, and lie in memory as 'HvAt' says.
-/
import Derived.Test.YtckcbfnffmohgaaDoorSn1
import Derived.Test.YtckcbfnffmohgaaDoorSn0
import Derived.Test.YtckcbfnffmohgaaDoorNk2
import Derived.Test.YtckcbfnffmohgaaDoorUn4
import Derived.StillTailTactics
import Derived.Deep.RegionHeld3
namespace Go.Proofs.YtckcbfnffmohgaaDoor
open Go Go.RowKit Go.Lib NK
set_option linter.unusedVariables false

/-- What a closure does that grow asks at each edge that joins: its state behind k edges, none of its blocks one of F; or the end. -/
structure Each (g : Nat) (cb : Array Value) (n : Nat) (A : Option Addr) (L : List He) (f : Nat → Int) (B : Nat) (St : Nat → (Nat → Prop) → World → Prop) (Fin : World → Prop) : Prop where
  hv : ∀ {k F W}, St k F W → HvAt W A L
  mv : ∀ {k F F' W W'}, St k F W → (∀ b, F b → B ≤ b) → Chg F W W' → (∀ b, F' b → F b ∨ W.heap.size ≤ b) → St k F' W'
  no : ∀ {k F W}, k < L.length → St k F W → ¬ Tk L (f k).toNat → St (k + 1) F W
  yes : ∀ {k F W u hs}, k < L.length → St k F W → Tk L (f k).toNat → UAt W u n hs → (∀ b, u.fp b → F b) → (∀ b, F b → b < W.heap.size) → Uk L f (k + 1) hs →
    Calls Tryd.prog g (#[.pointer (some ⟨u.g, 0, none⟩), .int .i64 (f k)] ++ cb) W fun e w' => ∃ r : Bool, e = .returned (.bool r) ∧ Chg (fun b => ¬ F b) W w' ∧ (r = true → St (k + 1) F w') ∧ (r = false → Fin w')

/-- The blocks of the union and of the order's row. -/
def Fu (u : Uni) (v : Value) (b : Nat) : Prop := u.fp b ∨ v.ownBlock = some b
structure GI (B n : Nat) (L : List He) (xs : List Int) (v : Value) (ug : Nat) (St : Nat → (Nat → Prop) → World → Prop) (k : Nat) (wr : World) (u : Uni) (hs : UF.Hs) : Prop where
  un : UAt wr u n hs
  ug : u.g = ug
  uk : Uk L (fun k => xs.getD k 0) k hs
  ub : ∀ b, Fu u v b → B ≤ b
  ur : ∀ b, u.fp b → v.ownBlock ≠ some b
  row : wr.ownsRow 0 3 1 v L.length (intsV xs)
  st : St k (Fu u v) wr
def GrPost (w : World) (L : List He) (St : (Nat → Int) → Nat → (Nat → Prop) → World → Prop) (Fin : World → Prop) (e : Ending) (w' : World) : Prop := e = .returned .nilIface ∧ ((∃ f F, Ord L f ∧ (∀ b, F b → w.heap.size ≤ b) ∧ St f L.length F w') ∨ Fin w')

section
variable {g B n ug k : Nat} {cb : Array Value} {A : Option Addr} {L : List He} {xs : List Int} {v : Value} {St : Nat → (Nat → Prop) → World → Prop} {Fin : World → Prop} {wr w' : World} {u u' : Uni} {hs : UF.Hs}
theorem fstH {A B : Prop} (h : A ∧ B) : A := h.1
theorem moved_undrew (h : Moved wr.drew u u' w') : Moved wr u u' w' := ⟨h.1, h.2.1.undrew, h.2.2⟩
theorem GI.hv (E : Each g cb n A L (fun k => xs.getD k 0) B St Fin) (h : GI B n L xs v ug St k wr u hs) (hm : Moved wr u u' w') : HvAt w' A L :=
  E.hv (E.mv (F' := fun _ => False) h.st h.ub (hm.2.1.mono fun b _ hb => .inl hb) fun _ hf => hf.elim)
/-- Behind a Join. -/
theorem GI.moved {hs' : UF.Hs} {k' : Nat} (E : Each g cb n A L (fun k => xs.getD k 0) B St Fin) (h : GI B n L xs v ug St k wr u hs) (hB : B ≤ wr.heap.size) (hu : UAt w' u' n hs') (hm : Moved wr u u' w') (hk : Uk L (fun k => xs.getD k 0) k' hs') :
    u'.g = ug ∧ (∀ b, Fu u' v b → B ≤ b) ∧ (∀ b, u'.fp b → v.ownBlock ≠ some b) ∧ w'.ownsRow 0 3 1 v L.length (intsV xs) ∧ St k (Fu u' v) w' := by
  obtain ⟨m1, m2, m3⟩ := hm
  have hlt : ∀ b, v.ownBlock = some b → b < wr.heap.size := fun b hb => own_lt h.row hb
  refine ⟨m1.trans h.ug, fun b hb => ?_, fun b hb e => ?_, own_chg h.row m2 (fun b hb hu => h.ur b hu hb), E.mv h.st h.ub (m2.mono fun b _ hb => .inl hb) fun b hb => ?_⟩
  · rcases hb with hb | hb
    · rcases m3 b hb with q | q
      · exact h.ub b (.inl q)
      · omega
    · exact h.ub b (.inr hb)
  · rcases m3 b hb with q | q
    · exact h.ur b q e
    · have := hlt b e; omega
  · rcases hb with hb | hb
    · rcases m3 b hb with q | q
      · exact .inl (.inl q)
      · exact .inr q
    · exact .inl (.inr hb)
/-- An edge that joins nothing. -/
theorem GI.skip (E : Each g cb n A L (fun k => xs.getD k 0) B St Fin) (h : GI B n L xs v ug St k wr u hs) (hB : B ≤ wr.heap.size) (hk : k < L.length) (hn : ¬ Tk L (xs.getD k 0).toNat) {a b : Nat} (hab : NK.ndH L (xs.getD k 0) = (a, b)) (hu : UAt w' u' n (UF.join hs a b)) (hm : Moved wr u u' w') : GI B n L xs v ug St (k + 1) w' u' (UF.join hs a b) := by
  have hs1 : Uk L (fun k => xs.getD k 0) (k + 1) (UF.join hs a b) := by
    have := h.uk.step
    simp only [hab] at this
    exact this
  obtain ⟨q1, q2, q3, q4, q5⟩ := h.moved E hB hu hm hs1
  exact ⟨hu, q1, hs1, q2, q3, q4, E.no hk q5 hn⟩
end

set_option maxHeartbeats 2000000 in
set_option maxRecDepth 100000 in
theorem grow_any (g : Nat) (cb : Array Value) (w : World) (n : Nat) (A : Option Addr) (len c : Nat) (L : List He) (hl : L.length = len) (hok : OkH n L) (h : HvAt w A L) (St : (Nat → Int) → Nat → (Nat → Prop) → World → Prop) (Fin : World → Prop)
    (eg : ∀ args w, (callFunc g args).run Tryd.prog w = .ok (.enter g args) w) (E : ∀ f, Ord L f → Each g cb n A L f w.heap.size (St f) Fin) (h0 : ∀ f F W', Ord L f → Ext w W' → (∀ b, F b → w.heap.size ≤ b) → St f 0 F W') :
    Calls Tryd.prog 17 #[.int .i64 n, .slice A len c, .func (.func g) #[] cb] w (GrPost w L St Fin) := by
  have H := Lib.hid h
  have HL := Lib.hid hl
  have HO := Lib.hid hok
  have HE := Lib.hid E
  have H0 := Lib.hid h0
  have hn1 : 0 < n := by have := hok.n1; omega
  have hn2 : n ≤ 60 := by have := hok.n2; omega
  have hlen : len ≤ 200 := by have := hok.len; omega
  clear h hl hok E h0
  go_enter Tryd.func17, Tryd.ntmps17
  go_wp2_with fail
  refine (new_yes w n hn1 hn2).mono ?_
  rintro e w1 ⟨u, rfl, hu, hx1, hun⟩
  obtain ⟨ug, hug⟩ : ∃ q, u.g = q := ⟨_, rfl⟩
  rw [hug]
  have H1 : Hid (UAt w1 u n [] ∧ Ext w w1 ∧ (∀ k, u.fp k → w.heap.size ≤ k) ∧ u.g = ug) := ⟨hu, hx1, hun, hug⟩
  clear hu hx1 hun hug
  have HLT := Lib.hid (light_any w1 A len c L HL.out hlen (H.out.ext H1.out.2.1) fun x hx => ⟨(HO.out.ok x hx).2.2.2.1, (HO.out.ok x hx).2.2.2.2⟩)
  go_wp2_with fail
  go_at_call 24
  refine HLT.out.mono ?_
  rintro e w2 ⟨R, cr, xs, rfl, hr, hord, hx2, hrn⟩
  have HORD := Lib.hid hord
  have HEE := Lib.hid (HE.out _ hord)
  have HI : Hid (∃ u hs, GI w.heap.size n L xs (.slice R len cr) ug (St fun k => xs.getD k 0) 0 w2 u hs) := by
    have hx : Ext w w2 := H1.out.2.1.trans hx2
    have hb : ∀ b, Fu u (.slice R len cr) b → w.heap.size ≤ b := fun b hb => by
      rcases hb with hb | hb
      · exact H1.out.2.2.1 b hb
      · have := hrn b hb; have := H1.out.2.1.size; omega
    refine ⟨u, [], H1.out.1.new hx2, H1.out.2.2.2, Uk.start _ _, hb, fun b hb e => ?_, by rw [HL.out]; exact hr, H0.out _ _ _ hord hx hb⟩
    have h1 := H1.out.1.lt hb
    have h2 := hrn b e
    omega
  have HB : Hid (w.heap.size ≤ w2.heap.size) := (H1.out.2.1.trans hx2).size
  have hxl : xs.length = len := by have := hr.1; simpa [intsV] using this
  have HXL := Lib.hid hxl
  clear hr hord hx2 hrn H1 HLT HE H0 hxl
  go_wp2
  go_loopw [24] (fun v24 wr => ∃ k : Nat, k ≤ len ∧ v24 = .int .i64 k ∧ Hid (∃ u hs, GI w.heap.size n L xs (.slice R len cr) ug (St fun k => xs.getD k 0) k wr u hs) ∧ Hid (w.heap.size ≤ wr.heap.size)) (fun v24 _ => len - (intOf v24).toNat)
  case atStart => exact ⟨0, Nat.zero_le _, rfl, HI.out, HB.out⟩
  case round =>
    clear HI HB
    obtain ⟨k, hk, rfl, HI, HB⟩ := hrel
    by_cases hkl : k < len
    · obtain ⟨u, hs, hI⟩ := HI.out
      have HII := Lib.hid hI
      have hkz : (k : Int) < (len : Int) := by omega
      -- the edge's number, its nodes
      obtain ⟨i, hi⟩ := Int.eq_ofNat_of_zero_le (HORD.out.in_ k (by rw [HL.out]; exact hkl)).1
      have hi2 := (HORD.out.in_ k (by rw [HL.out]; exact hkl)).2
      have hil : i < len := by rw [hi, HL.out] at hi2; omega
      have hgi : xs[k]? = some (i : Int) := by
        rw [List.getD_eq_getElem?_getD] at hi
        rw [List.getElem?_eq_getElem (by rw [HXL.out]; exact hkl)] at hi ⊢
        simpa using hi
      have hrow := hI.row
      rw [HL.out] at hrow
      obtain ⟨hRa, _⟩ := IntsAt.of_own hrow
      clear hrow
      rcases hRa with h0 | ⟨gr, ofr, rfl, _, hcr⟩
      · subst h0; simp at hgi
      have r1 := hcr k _ hgi
      have hHV := HEE.out.hv hI.st
      obtain ⟨bs, off, x, rfl, hbs, hx, _⟩ := hHV.at_ (i := i) (by rw [HL.out]; exact hil)
      have hxo := HO.out.ok x (List.mem_of_getElem? hx)
      obtain ⟨⟨x1, x2⟩, x3⟩ := x
      simp only at hxo
      obtain ⟨a, rfl⟩ := Int.eq_ofNat_of_zero_le hxo.1
      obtain ⟨b, rfl⟩ := Int.eq_ofNat_of_zero_le (show 0 ≤ x2 by omega)
      have ha : a < n := by omega
      have hb : b < n := by omega
      have hnd : NK.ndH L (xs.getD k 0) = (a, b) := by rw [hi, ndH_at hx]; simp
      have HND := Lib.hid hnd
      have HC : Hid (∀ W, HvAt W (some ⟨bs, off, none⟩) L → HvAt W (some ⟨bs, off, none⟩) L ∧ W.cell? ⟨bs, off + i * 3, none⟩ = some (.int .i64 (a : Nat)) ∧ W.cell? ⟨bs, off + i * 3 + 1, none⟩ = some (.int .i64 (b : Nat))) := fun W hW => ⟨hW, (hW.here hx).2.1, (hW.here hx).2.2.1⟩
      have htk : Tk L i ↔ UF.rt hs a ≠ UF.rt hs b := by
        have h1 := hI.uk a b
        rw [HORD.out.ahead (k := k) (i := i) (by rw [HL.out]; exact hkl) hi] at h1
        unfold Tk
        rw [ndH_at hx]
        simp only [Int.toNat_natCast]
        rw [← h1]
      have HTK := Lib.hid htk
      have HI2 : Hid (xs.getD k 0 = (i : Int)) := hi
      have HJN := Lib.hid (fun W (hW : Ext wr W) => join_in (hI.un.new hW) hI.ug (a : Int) (b : Int) (by omega) (by omega))
      have hF0 : HvAt wr (some ⟨bs, off, none⟩) L := hHV
      have hkg : (0 : Int) ≤ (k : Int) := by omega
      have hiz : (i : Int) < (len : Int) := by omega
      have hig : (0 : Int) ≤ (i : Int) := by omega
      clear hi hi2 hgi hcr hHV hx hxo hnd htk hI HI
      by_cases c : UF.rt hs a = UF.rt hs b
      · have hbb : (UF.rt hs a != UF.rt hs b) = false := by rw [bne_eq_false_iff_eq]; exact c
        have hnt : ¬ Tk L i := fun q => HTK.out.1 q c
        have HNT := Lib.hid hnt
        clear hnt c
        go_wp2_with fail
        go_region_held3 (fun W => HvAt W (some ⟨bs, off, none⟩) L ∧ W.cell? ⟨bs, off + i * 3, none⟩ = some (.int .i64 (a : Nat)) ∧ W.cell? ⟨bs, off + i * 3 + 1, none⟩ = some (.int .i64 (b : Nat)))
          (exact HC.out _ (by first | assumption | exact HvAt.ext hF0 (Ext.drew _) | exact fstH (by assumption) | exact HvAt.ext (fstH (by assumption)) (by assumption)))
          (first
            | (go_at_call 25; refine (HJN.out _ (Ext.drew _)).mono ?_; rintro e w11 ⟨u', he, q1, q2⟩; simp only [Int.toNat_natCast, hbb] at he q1; subst he; have Q1 := Lib.hid q1; have Q2 := Lib.hid (moved_undrew q2); have hF11 := HII.out.hv HEE.out (moved_undrew q2); clear q1 q2)
            | fail)
        rename_i hHeld
        have HI3 : Hid (∃ u hs, GI w.heap.size n L xs (.slice (some ⟨gr, ofr, none⟩) len cr) ug (St fun k => xs.getD k 0) (k + 1) w11 u hs) := ⟨u', _, HII.out.skip HEE.out HB.out (by rw [HL.out]; exact hkl) (by rw [HI2.out, Int.toNat_natCast]; exact HNT.out) HND.out Q1.out Q2.out⟩
        have HB3 : Hid (w.heap.size ≤ w11.heap.size) := Nat.le_trans HB.out Q2.out.2.1.size
        clear hHeld HJN HII HB HC Q1 Q2 hF0 hF11 HTK HNT HND hbb r1 hbs
        go_wp2
        go_roundw
        case rel => exact ⟨k + 1, by omega, by go_num, HI3.out, HB3.out⟩
        case measure => simp [intOf]; omega
      · have hbb : (UF.rt hs a != UF.rt hs b) = true := by rw [bne_iff_ne]; exact c
        have HYT := Lib.hid (HTK.out.2 c)
        clear c
        go_wp2_with fail
        go_region_held3 (fun W => HvAt W (some ⟨bs, off, none⟩) L ∧ W.cell? ⟨bs, off + i * 3, none⟩ = some (.int .i64 (a : Nat)) ∧ W.cell? ⟨bs, off + i * 3 + 1, none⟩ = some (.int .i64 (b : Nat)))
          (exact HC.out _ (by first | assumption | exact HvAt.ext hF0 (Ext.drew _) | exact fstH (by assumption) | exact HvAt.ext (fstH (by assumption)) (by assumption)))
          (first
            | (go_at_call 25; refine (HJN.out _ (Ext.drew _)).mono ?_; rintro e w11 ⟨u', he, q1, q2⟩; simp only [Int.toNat_natCast, hbb] at he q1; subst he; have Q1 := Lib.hid q1; have Q2 := Lib.hid (moved_undrew q2); have hF11 := HII.out.hv HEE.out (moved_undrew q2); clear q1 q2)
            | fail)
        rename_i hHeld
        have hs1 : Uk L (fun k => xs.getD k 0) (k + 1) (UF.join hs a b) := by
          have := HII.out.uk.step
          rw [HND.out] at this
          exact this
        obtain ⟨m1, m2, m3, m4, m5⟩ := HII.out.moved HEE.out HB.out Q1.out Q2.out hs1
        have hcl := HEE.out.yes (k := k) (by rw [HL.out]; exact hkl) m5 (by show Tk L (xs.getD k 0).toNat; rw [HI2.out, Int.toNat_natCast]; exact HYT.out) Q1.out (fun b hb => .inl hb) (fun b hb => by rcases hb with hb | hb; exact Q1.out.lt hb; exact own_lt m4 hb) hs1
        rw [m1] at hcl
        simp only [HI2.out] at hcl
        have HCL := Lib.hid hcl
        have HM : Hid ((∀ b, Fu u' (.slice (some ⟨gr, ofr, none⟩) len cr) b → w.heap.size ≤ b) ∧ (∀ b, u'.fp b → (Value.slice (some ⟨gr, ofr, none⟩) len cr).ownBlock ≠ some b) ∧ w11.ownsRow 0 3 1 (.slice (some ⟨gr, ofr, none⟩) len cr) L.length (intsV xs) ∧ u'.g = ug ∧ Uk L (fun k => xs.getD k 0) (k + 1) (UF.join hs a b)) := ⟨m2, m3, m4, m1, hs1⟩
        have HB3 : Hid (w.heap.size ≤ w11.heap.size) := Nat.le_trans HB.out Q2.out.2.1.size
        clear hHeld HJN HII HB HC Q2 hF0 hF11 HTK HYT HND hbb r1 hbs hs1 m1 m2 m3 m4 m5 hcl
        go_wp2_with fail
        go_at_fn g
        refine HCL.out.mono ?_
        rintro e w12 ⟨r, rfl, z1, z2, z3⟩
        have HZ := Lib.hid z1
        have HZ2 := Lib.hid z2
        have HZ3 := Lib.hid z3
        clear z1 z2 z3 HCL
        cases r with
        | true =>
          have HI3 : Hid (∃ u hs, GI w.heap.size n L xs (.slice (some ⟨gr, ofr, none⟩) len cr) ug (St fun k => xs.getD k 0) (k + 1) w12 u hs) := by
            obtain ⟨m2, m3, m4, m1, hs1⟩ := HM.out
            exact ⟨u', _, Q1.out.chg HZ.out (fun b hb q => q (.inl hb)), m1, hs1, m2, m3, own_chg m4 HZ.out (fun b hb q => q (.inr hb)), HZ2.out rfl⟩
          have HB4 : Hid (w.heap.size ≤ w12.heap.size) := Nat.le_trans HB3.out HZ.out.size
          clear HZ HZ2 HZ3 HM HB3 Q1
          go_wp2
          go_roundw
          case rel => exact ⟨k + 1, by omega, by go_num, HI3.out, HB4.out⟩
          case measure => simp [intOf]; omega
        | false =>
          have HP : Hid (GrPost w L St Fin (.returned .nilIface) w12) := ⟨rfl, .inr (HZ3.out rfl)⟩
          clear HZ HZ2 HZ3 HM HB3 Q1
          go_wp2
          go_ret
          exact HP.out
    · obtain rfl : k = len := by omega
      have hkz : ¬ (k : Int) < (k : Int) := by omega
      have HP : Hid (GrPost w L St Fin (.returned .nilIface) wr) := by
        obtain ⟨u, hs, hI⟩ := HI.out
        refine ⟨rfl, .inl ⟨_, _, HORD.out, hI.ub, ?_⟩⟩
        rw [HL.out]
        exact hI.st
      clear HI
      go_wp2
      go_ret
      exact HP.out
end Go.Proofs.YtckcbfnffmohgaaDoor
