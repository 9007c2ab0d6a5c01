/-
  span.grow, at whatever closure of which is known what it does at an edge that joins (Each). Conditions: the edges may be, and lie in memory as 'HvAt' says.
  span.Span and span.Weight. Condition: the edges lie in memory as 'HvAt' says.
-/
import Derived.Test.YtckcbfnffmohgaaGreatTt41
import Derived.Test.YtckcbfnffmohgaaGreatTt42
import Derived.Test.YtckcbfnffmohgaaGreatTt43
import Derived.Test.YtckcbfnffmohgaaGreatTt44
import Derived.StillTailTactics
import Derived.Deep.RegionHeld3
import Derived.Test.YtckcbfnffmohgaaGreatTt9
namespace Go.Proofs.YtckcbfnffmohgaaGreat
open Go Go.RowKit Go.Lib NK
set_option linter.unusedVariables false

/-- What a closure does that grow asks at each edge that joins: its state behind k edges, none of its blocks one of F; or the end. -/
structure Each (g : Nat) (cb : Array Value) (n : Nat) (A : Option Addr) (L : List He) (f : Nat → Int) (B : Nat) (St : Nat → (Nat → Prop) → World → Prop) (Fin : World → Prop) : Prop where
  hv : ∀ {k F W}, St k F W → HvAt W A L
  mv : ∀ {k F F' W W'}, St k F W → (∀ b, F b → B ≤ b) → Chg F W W' → (∀ b, F' b → F b ∨ W.heap.size ≤ b) → St k F' W'
  no : ∀ {k F W}, k < L.length → St k F W → ¬ Tk L (f k).toNat → St (k + 1) F W
  yes : ∀ {k F W u hs}, k < L.length → St k F W → Tk L (f k).toNat → UAt W u n hs → (∀ b, u.fp b → F b) → (∀ b, F b → b < W.heap.size) → Uk L f (k + 1) hs →
    Calls Tryz.prog g (#[.pointer (some ⟨u.g, 0, none⟩), .int .i64 (f k)] ++ cb) W fun e w' => ∃ r : Bool, e = .returned (.bool r) ∧ Chg (fun b => ¬ F b) W w' ∧ (r = true → St (k + 1) F w') ∧ (r = false → Fin w')

/-- The blocks of the union and of the order's row. -/
def Fu (u : Uni) (v : Value) (b : Nat) : Prop := u.fp b ∨ v.ownBlock = some b
structure GI (B n : Nat) (L : List He) (xs : List Int) (v : Value) (ug : Nat) (St : Nat → (Nat → Prop) → World → Prop) (k : Nat) (wr : World) (u : Uni) (hs : UF.Hs) : Prop where
  un : UAt wr u n hs
  ug : u.g = ug
  uk : Uk L (fun k => xs.getD k 0) k hs
  ub : ∀ b, Fu u v b → B ≤ b
  ur : ∀ b, u.fp b → v.ownBlock ≠ some b
  row : wr.ownsRow 0 3 1 v L.length (intsV xs)
  st : St k (Fu u v) wr
def GrPost (w : World) (L : List He) (St : (Nat → Int) → Nat → (Nat → Prop) → World → Prop) (Fin : World → Prop) (e : Ending) (w' : World) : Prop := e = .returned .nilIface ∧ ((∃ f F, Ord L f ∧ (∀ b, F b → w.heap.size ≤ b) ∧ St f L.length F w') ∨ Fin w')

section
variable {g B n ug k : Nat} {cb : Array Value} {A : Option Addr} {L : List He} {xs : List Int} {v : Value} {St : Nat → (Nat → Prop) → World → Prop} {Fin : World → Prop} {wr w' : World} {u u' : Uni} {hs : UF.Hs}
theorem fstH {A B : Prop} (h : A ∧ B) : A := h.1
theorem moved_undrew (h : Moved wr.drew u u' w') : Moved wr u u' w' := ⟨h.1, h.2.1.undrew, h.2.2⟩
theorem GI.hv (E : Each g cb n A L (fun k => xs.getD k 0) B St Fin) (h : GI B n L xs v ug St k wr u hs) (hm : Moved wr u u' w') : HvAt w' A L :=
  E.hv (E.mv (F' := fun _ => False) h.st h.ub (hm.2.1.mono fun b _ hb => .inl hb) fun _ hf => hf.elim)
/-- Behind a Join. -/
theorem GI.moved {hs' : UF.Hs} {k' : Nat} (E : Each g cb n A L (fun k => xs.getD k 0) B St Fin) (h : GI B n L xs v ug St k wr u hs) (hB : B ≤ wr.heap.size) (hu : UAt w' u' n hs') (hm : Moved wr u u' w') (hk : Uk L (fun k => xs.getD k 0) k' hs') :
    u'.g = ug ∧ (∀ b, Fu u' v b → B ≤ b) ∧ (∀ b, u'.fp b → v.ownBlock ≠ some b) ∧ w'.ownsRow 0 3 1 v L.length (intsV xs) ∧ St k (Fu u' v) w' := by
  obtain ⟨m1, m2, m3⟩ := hm
  have hlt : ∀ b, v.ownBlock = some b → b < wr.heap.size := fun b hb => own_lt h.row hb
  refine ⟨m1.trans h.ug, fun b hb => ?_, fun b hb e => ?_, own_chg h.row m2 (fun b hb hu => h.ur b hu hb), E.mv h.st h.ub (m2.mono fun b _ hb => .inl hb) fun b hb => ?_⟩
  · rcases hb with hb | hb
    · rcases m3 b hb with q | q
      · exact h.ub b (.inl q)
      · omega
    · exact h.ub b (.inr hb)
  · rcases m3 b hb with q | q
    · exact h.ur b q e
    · have := hlt b e; omega
  · rcases hb with hb | hb
    · rcases m3 b hb with q | q
      · exact .inl (.inl q)
      · exact .inr q
    · exact .inl (.inr hb)
/-- An edge that joins nothing. -/
theorem GI.skip (E : Each g cb n A L (fun k => xs.getD k 0) B St Fin) (h : GI B n L xs v ug St k wr u hs) (hB : B ≤ wr.heap.size) (hk : k < L.length) (hn : ¬ Tk L (xs.getD k 0).toNat) {a b : Nat} (hab : NK.ndH L (xs.getD k 0) = (a, b)) (hu : UAt w' u' n (UF.join hs a b)) (hm : Moved wr u u' w') : GI B n L xs v ug St (k + 1) w' u' (UF.join hs a b) := by
  have hs1 : Uk L (fun k => xs.getD k 0) (k + 1) (UF.join hs a b) := by
    have := h.uk.step
    simp only [hab] at this
    exact this
  obtain ⟨q1, q2, q3, q4, q5⟩ := h.moved E hB hu hm hs1
  exact ⟨hu, q1, hs1, q2, q3, q4, E.no hk q5 hn⟩
end

set_option maxHeartbeats 2000000 in
set_option maxRecDepth 100000 in
theorem grow_any (g : Nat) (cb : Array Value) (w : World) (n : Nat) (A : Option Addr) (len c : Nat) (L : List He) (hl : L.length = len) (hok : OkH n L) (h : HvAt w A L) (St : (Nat → Int) → Nat → (Nat → Prop) → World → Prop) (Fin : World → Prop)
    (eg : ∀ args w, (callFunc g args).run Tryz.prog w = .ok (.enter g args) w) (E : ∀ f, Ord L f → Each g cb n A L f w.heap.size (St f) Fin) (h0 : ∀ f F W', Ord L f → Ext w W' → (∀ b, F b → w.heap.size ≤ b) → St f 0 F W') :
    Calls Tryz.prog 23 #[.int .i64 n, .slice A len c, .func (.func g) #[] cb] w (GrPost w L St Fin) := by
  have H := Lib.hid h
  have HL := Lib.hid hl
  have HO := Lib.hid hok
  have HE := Lib.hid E
  have H0 := Lib.hid h0
  have hn1 : 0 < n := by have := hok.n1; omega
  have hn2 : n ≤ 60 := by have := hok.n2; omega
  have hlen : len ≤ 200 := by have := hok.len; omega
  clear h hl hok E h0
  go_enter Tryz.func23, Tryz.ntmps23
  go_wp2_with fail
  refine (new_yes w n hn1 hn2).mono ?_
  rintro e w1 ⟨u, rfl, hu, hx1, hun⟩
  obtain ⟨ug, hug⟩ : ∃ q, u.g = q := ⟨_, rfl⟩
  rw [hug]
  have H1 : Hid (UAt w1 u n [] ∧ Ext w w1 ∧ (∀ k, u.fp k → w.heap.size ≤ k) ∧ u.g = ug) := ⟨hu, hx1, hun, hug⟩
  clear hu hx1 hun hug
  have HLT := Lib.hid (light_any w1 A len c L HL.out hlen (H.out.ext H1.out.2.1) fun x hx => ⟨(HO.out.ok x hx).2.2.2.1, (HO.out.ok x hx).2.2.2.2⟩)
  go_wp2_with fail
  go_at_call 51
  refine HLT.out.mono ?_
  rintro e w2 ⟨R, cr, xs, rfl, hr, hord, hx2, hrn⟩
  have HORD := Lib.hid hord
  have HEE := Lib.hid (HE.out _ hord)
  have HI : Hid (∃ u hs, GI w.heap.size n L xs (.slice R len cr) ug (St fun k => xs.getD k 0) 0 w2 u hs) := by
    have hx : Ext w w2 := H1.out.2.1.trans hx2
    have hb : ∀ b, Fu u (.slice R len cr) b → w.heap.size ≤ b := fun b hb => by
      rcases hb with hb | hb
      · exact H1.out.2.2.1 b hb
      · have := hrn b hb; have := H1.out.2.1.size; omega
    refine ⟨u, [], H1.out.1.new hx2, H1.out.2.2.2, Uk.start _ _, hb, fun b hb e => ?_, by rw [HL.out]; exact hr, H0.out _ _ _ hord hx hb⟩
    have h1 := H1.out.1.lt hb
    have h2 := hrn b e
    omega
  have HB : Hid (w.heap.size ≤ w2.heap.size) := (H1.out.2.1.trans hx2).size
  have hxl : xs.length = len := by have := hr.1; simpa [intsV] using this
  have HXL := Lib.hid hxl
  clear hr hord hx2 hrn H1 HLT HE H0 hxl
  go_wp2
  go_loopw [24] (fun v24 wr => ∃ k : Nat, k ≤ len ∧ v24 = .int .i64 k ∧ Hid (∃ u hs, GI w.heap.size n L xs (.slice R len cr) ug (St fun k => xs.getD k 0) k wr u hs) ∧ Hid (w.heap.size ≤ wr.heap.size)) (fun v24 _ => len - (intOf v24).toNat)
  case atStart => exact ⟨0, Nat.zero_le _, rfl, HI.out, HB.out⟩
  case round =>
    clear HI HB
    obtain ⟨k, hk, rfl, HI, HB⟩ := hrel
    by_cases hkl : k < len
    · obtain ⟨u, hs, hI⟩ := HI.out
      have HII := Lib.hid hI
      have hkz : (k : Int) < (len : Int) := by omega
      -- the edge's number, its nodes
      obtain ⟨i, hi⟩ := Int.eq_ofNat_of_zero_le (HORD.out.in_ k (by rw [HL.out]; exact hkl)).1
      have hi2 := (HORD.out.in_ k (by rw [HL.out]; exact hkl)).2
      have hil : i < len := by rw [hi, HL.out] at hi2; omega
      have hgi : xs[k]? = some (i : Int) := by
        rw [List.getD_eq_getElem?_getD] at hi
        rw [List.getElem?_eq_getElem (by rw [HXL.out]; exact hkl)] at hi ⊢
        simpa using hi
      have hrow := hI.row
      rw [HL.out] at hrow
      obtain ⟨hRa, _⟩ := IntsAt.of_own hrow
      clear hrow
      rcases hRa with h0 | ⟨gr, ofr, rfl, _, hcr⟩
      · subst h0; simp at hgi
      have r1 := hcr k _ hgi
      have hHV := HEE.out.hv hI.st
      obtain ⟨bs, off, x, rfl, hbs, hx, _⟩ := hHV.at_ (i := i) (by rw [HL.out]; exact hil)
      have hxo := HO.out.ok x (List.mem_of_getElem? hx)
      obtain ⟨⟨x1, x2⟩, x3⟩ := x
      simp only at hxo
      obtain ⟨a, rfl⟩ := Int.eq_ofNat_of_zero_le hxo.1
      obtain ⟨b, rfl⟩ := Int.eq_ofNat_of_zero_le (show 0 ≤ x2 by omega)
      have ha : a < n := by omega
      have hb : b < n := by omega
      have hnd : NK.ndH L (xs.getD k 0) = (a, b) := by rw [hi, ndH_at hx]; simp
      have HND := Lib.hid hnd
      have HC : Hid (∀ W, HvAt W (some ⟨bs, off, none⟩) L → HvAt W (some ⟨bs, off, none⟩) L ∧ W.cell? ⟨bs, off + i * 3, none⟩ = some (.int .i64 (a : Nat)) ∧ W.cell? ⟨bs, off + i * 3 + 1, none⟩ = some (.int .i64 (b : Nat))) := fun W hW => ⟨hW, (hW.here hx).2.1, (hW.here hx).2.2.1⟩
      have htk : Tk L i ↔ UF.rt hs a ≠ UF.rt hs b := by
        have h1 := hI.uk a b
        rw [HORD.out.ahead (k := k) (i := i) (by rw [HL.out]; exact hkl) hi] at h1
        unfold Tk
        rw [ndH_at hx]
        simp only [Int.toNat_natCast]
        rw [← h1]
      have HTK := Lib.hid htk
      have HI2 : Hid (xs.getD k 0 = (i : Int)) := hi
      have HJN := Lib.hid (fun W (hW : Ext wr W) => join_in (hI.un.new hW) hI.ug (a : Int) (b : Int) (by omega) (by omega))
      have hF0 : HvAt wr (some ⟨bs, off, none⟩) L := hHV
      have hkg : (0 : Int) ≤ (k : Int) := by omega
      have hiz : (i : Int) < (len : Int) := by omega
      have hig : (0 : Int) ≤ (i : Int) := by omega
      clear hi hi2 hgi hcr hHV hx hxo hnd htk hI HI
      by_cases c : UF.rt hs a = UF.rt hs b
      · have hbb : (UF.rt hs a != UF.rt hs b) = false := by rw [bne_eq_false_iff_eq]; exact c
        have hnt : ¬ Tk L i := fun q => HTK.out.1 q c
        have HNT := Lib.hid hnt
        clear hnt c
        go_wp2_with fail
        go_region_held3 (fun W => HvAt W (some ⟨bs, off, none⟩) L ∧ W.cell? ⟨bs, off + i * 3, none⟩ = some (.int .i64 (a : Nat)) ∧ W.cell? ⟨bs, off + i * 3 + 1, none⟩ = some (.int .i64 (b : Nat)))
          (exact HC.out _ (by first | assumption | exact HvAt.ext hF0 (Ext.drew _) | exact fstH (by assumption) | exact HvAt.ext (fstH (by assumption)) (by assumption)))
          (first
            | (go_at_call 8; refine (HJN.out _ (Ext.drew _)).mono ?_; rintro e w11 ⟨u', he, q1, q2⟩; simp only [Int.toNat_natCast, hbb] at he q1; subst he; have Q1 := Lib.hid q1; have Q2 := Lib.hid (moved_undrew q2); have hF11 := HII.out.hv HEE.out (moved_undrew q2); clear q1 q2)
            | fail)
        rename_i hHeld
        have HI3 : Hid (∃ u hs, GI w.heap.size n L xs (.slice (some ⟨gr, ofr, none⟩) len cr) ug (St fun k => xs.getD k 0) (k + 1) w11 u hs) := ⟨u', _, HII.out.skip HEE.out HB.out (by rw [HL.out]; exact hkl) (by rw [HI2.out, Int.toNat_natCast]; exact HNT.out) HND.out Q1.out Q2.out⟩
        have HB3 : Hid (w.heap.size ≤ w11.heap.size) := Nat.le_trans HB.out Q2.out.2.1.size
        clear hHeld HJN HII HB HC Q1 Q2 hF0 hF11 HTK HNT HND hbb r1 hbs
        go_wp2
        go_roundw
        case rel => exact ⟨k + 1, by omega, by go_num, HI3.out, HB3.out⟩
        case measure => simp [intOf]; omega
      · have hbb : (UF.rt hs a != UF.rt hs b) = true := by rw [bne_iff_ne]; exact c
        have HYT := Lib.hid (HTK.out.2 c)
        clear c
        go_wp2_with fail
        go_region_held3 (fun W => HvAt W (some ⟨bs, off, none⟩) L ∧ W.cell? ⟨bs, off + i * 3, none⟩ = some (.int .i64 (a : Nat)) ∧ W.cell? ⟨bs, off + i * 3 + 1, none⟩ = some (.int .i64 (b : Nat)))
          (exact HC.out _ (by first | assumption | exact HvAt.ext hF0 (Ext.drew _) | exact fstH (by assumption) | exact HvAt.ext (fstH (by assumption)) (by assumption)))
          (first
            | (go_at_call 8; refine (HJN.out _ (Ext.drew _)).mono ?_; rintro e w11 ⟨u', he, q1, q2⟩; simp only [Int.toNat_natCast, hbb] at he q1; subst he; have Q1 := Lib.hid q1; have Q2 := Lib.hid (moved_undrew q2); have hF11 := HII.out.hv HEE.out (moved_undrew q2); clear q1 q2)
            | fail)
        rename_i hHeld
        have hs1 : Uk L (fun k => xs.getD k 0) (k + 1) (UF.join hs a b) := by
          have := HII.out.uk.step
          rw [HND.out] at this
          exact this
        obtain ⟨m1, m2, m3, m4, m5⟩ := HII.out.moved HEE.out HB.out Q1.out Q2.out hs1
        have hcl := HEE.out.yes (k := k) (by rw [HL.out]; exact hkl) m5 (by show Tk L (xs.getD k 0).toNat; rw [HI2.out, Int.toNat_natCast]; exact HYT.out) Q1.out (fun b hb => .inl hb) (fun b hb => by rcases hb with hb | hb; exact Q1.out.lt hb; exact own_lt m4 hb) hs1
        rw [m1] at hcl
        simp only [HI2.out] at hcl
        have HCL := Lib.hid hcl
        have HM : Hid ((∀ b, Fu u' (.slice (some ⟨gr, ofr, none⟩) len cr) b → w.heap.size ≤ b) ∧ (∀ b, u'.fp b → (Value.slice (some ⟨gr, ofr, none⟩) len cr).ownBlock ≠ some b) ∧ w11.ownsRow 0 3 1 (.slice (some ⟨gr, ofr, none⟩) len cr) L.length (intsV xs) ∧ u'.g = ug ∧ Uk L (fun k => xs.getD k 0) (k + 1) (UF.join hs a b)) := ⟨m2, m3, m4, m1, hs1⟩
        have HB3 : Hid (w.heap.size ≤ w11.heap.size) := Nat.le_trans HB.out Q2.out.2.1.size
        clear hHeld HJN HII HB HC Q2 hF0 hF11 HTK HYT HND hbb r1 hbs hs1 m1 m2 m3 m4 m5 hcl
        go_wp2_with fail
        go_at_fn g
        refine HCL.out.mono ?_
        rintro e w12 ⟨r, rfl, z1, z2, z3⟩
        have HZ := Lib.hid z1
        have HZ2 := Lib.hid z2
        have HZ3 := Lib.hid z3
        clear z1 z2 z3 HCL
        cases r with
        | true =>
          have HI3 : Hid (∃ u hs, GI w.heap.size n L xs (.slice (some ⟨gr, ofr, none⟩) len cr) ug (St fun k => xs.getD k 0) (k + 1) w12 u hs) := by
            obtain ⟨m2, m3, m4, m1, hs1⟩ := HM.out
            exact ⟨u', _, Q1.out.chg HZ.out (fun b hb q => q (.inl hb)), m1, hs1, m2, m3, own_chg m4 HZ.out (fun b hb q => q (.inr hb)), HZ2.out rfl⟩
          have HB4 : Hid (w.heap.size ≤ w12.heap.size) := Nat.le_trans HB3.out HZ.out.size
          clear HZ HZ2 HZ3 HM HB3 Q1
          go_wp2
          go_roundw
          case rel => exact ⟨k + 1, by omega, by go_num, HI3.out, HB4.out⟩
          case measure => simp [intOf]; omega
        | false =>
          have HP : Hid (GrPost w L St Fin (.returned .nilIface) w12) := ⟨rfl, .inr (HZ3.out rfl)⟩
          clear HZ HZ2 HZ3 HM HB3 Q1
          go_wp2
          go_ret
          exact HP.out
    · obtain rfl : k = len := by omega
      have hkz : ¬ (k : Int) < (k : Int) := by omega
      have HP : Hid (GrPost w L St Fin (.returned .nilIface) wr) := by
        obtain ⟨u, hs, hI⟩ := HI.out
        refine ⟨rfl, .inl ⟨_, _, HORD.out, hI.ub, ?_⟩⟩
        rw [HL.out]
        exact hI.st
      clear HI
      go_wp2
      go_ret
      exact HP.out
end Go.Proofs.YtckcbfnffmohgaaGreat
namespace Go.Proofs.YtckcbfnffmohgaaGreat
open Go Go.RowKit Go.Lib NK
set_option linter.unusedVariables false

set_option maxHeartbeats 1000000 in
/-- The closure: one number more. -/
theorem spanc_any (W : World) (g ob : Nat) (i : Int) (v : Value) (xs : List Int) (hb : Blk W ob 39 #[v]) (hr : W.ownsRow 0 3 1 v xs.length (intsV xs)) (hl : xs.length ≤ 1000) (hne : v.ownBlock ≠ some ob) :
    Calls Tryz.prog 39 #[.pointer (some ⟨g, 0, none⟩), .int .i64 i, .pointer (some ⟨ob, 0, none⟩)] W fun e w' => e = .returned (.bool true) ∧ ∃ v', Blk w' ob 39 #[v'] ∧ w'.ownsRow 0 3 1 v' (xs.length + 1) (intsV (xs ++ [i])) ∧ Chg (fun x => x = ob ∨ v.ownBlock = some x) W w' ∧ (∀ x, v'.ownBlock = some x → v.ownBlock = some x ∨ W.heap.size ≤ x) := by
  have HB := Lib.hid hb
  have HR := Lib.hid hr
  have HN := Lib.hid hne
  have c1 : W.cell? ⟨ob, 0, none⟩ = some v := hb.cell 0
  obtain ⟨A, cv, rfl, hcv⟩ := own_slice hr
  clear hb hr hne
  go_enter Tryz.func39, Tryz.ntmps39
  go_wp2_with (at_builtin; refine wpList_push _ rfl (.tmp 6) (.tmp 8) 39 rfl 3 (.int .i64 0) 8 Tryz.underlying39 infoI rfl (.slice A xs.length cv) xs.length (intsV xs) rfl (own_chg HR.out ((Chg.refl (fun _ => False) W).alloc _) (fun _ _ hf => hf)) ⟨by omega, by omega⟩ (.int .i64 i) W.heap.size rfl (cell_new1 rfl _ _) rfl ?_; intro g7 c7 w7 ho7 hc7 hat7 _; have HO7 := Lib.hid ho7; have HC7 := Lib.hid hc7; have HT7 := Lib.hid hat7; clear ho7 hc7 hat7; have hf7 := ((HB.out.alloc _).chg HC7.out HN.out).frozen 0; have hc7 := ((HB.out.alloc _).chg HC7.out HN.out).cell 0)
  have HZ : Hid (Blk w7 ob 39 #[.slice A xs.length cv]) := (HB.out.alloc _).chg HC7.out HN.out
  go_ret
  have hlt := HB.out.lt
  have hg7 : g7 ≠ ob := fun e => by
    subst e
    rcases HT7.out with h | h
    · exact HN.out h
    · have h' : g7 = W.heap.size + 1 := by rw [h]; simp
      omega
  refine ⟨rfl, _, HZ.out.set_ 0 _, own_far ?_ (by simpa [Value.ownBlock] using hg7) _, ?_, fun x hx => ?_⟩
  · unfold intsV; rw [List.map_append]; exact HO7.out
  · exact (((Chg.refl (fun x => x = ob ∨ (Value.slice A xs.length cv).ownBlock = some x) W).alloc _).trans (HC7.out.mono (S' := fun x => x = ob ∨ (Value.slice A xs.length cv).ownBlock = some x) fun k _ hk => .inr hk) (fun _ _ h => h)).setCell (p := ⟨ob, 0, none⟩) (fun _ => .inl rfl) _
  · simp only [Value.ownBlock, Option.some.injEq] at hx
    subst hx
    rcases HT7.out with h | h
    · exact .inl h
    · right; rw [h]; simp

/-- The closure's state: what was taken. -/
structure SSt (w : World) (ob : Nat) (L : List He) (f : Nat → Int) (k : Nat) (F : Nat → Prop) (W : World) : Prop where
  chg : Chg (fun x => x = ob) w W
  far : ∀ x, F x → w.heap.size ≤ x
  out : ∃ v, Blk W ob 39 #[v] ∧ W.ownsRow 0 3 1 v (outF L f k).length (intsV (outF L f k)) ∧ ∀ x, v.ownBlock = some x → w.heap.size ≤ x ∧ ¬ F x
theorem span_each (w : World) (n : Nat) (L : List He) (hok : OkH n L) (A : Option Addr) (ob : Nat) (hob : ob < w.heap.size) (h4 : L ≠ [] → ∀ x, A = some x → x.block ≠ ob) (hH : HvAt w A L) (f : Nat → Int) (ho : Ord L f) :
    Each 39 #[.pointer (some ⟨ob, 0, none⟩)] n A L f w.heap.size (SSt w ob L f) (fun _ => False) where
  hv h := hH.chg h.chg h4
  mv {k F F' W W'} h hF hc hF' := by
    have hz := h.chg.size
    obtain ⟨v, v1, v2, v3⟩ := h.out
    refine ⟨h.chg.trans hc fun i hi hf => absurd (hF i hf) (by omega), fun x hx => ?_, v, v1.chg hc fun q => absurd (hF ob q) (by omega), own_chg v2 hc fun x hx => (v3 x hx).2, fun x hx => ⟨(v3 x hx).1, fun q => ?_⟩⟩
    · rcases hF' x hx with q | q
      · exact hF x q
      · omega
    · rcases hF' x q with q | q
      · exact (v3 x hx).2 q
      · have := own_lt v2 hx; omega
  no {k F W} hk h ht := ⟨h.chg, h.far, by rw [outF_no ht]; exact h.out⟩
  yes {k F W u hs} hk h ht hu hF hlt huk := by
    obtain ⟨v, v1, v2, v3⟩ := h.out
    have hz := h.chg.size
    have hl := outF_len L f k
    have hlen := hok.len
    refine (spanc_any W u.g ob (f k) v _ v1 v2 (by omega) fun e => by have := (v3 ob e).1; omega).mono ?_
    rintro e w' ⟨rfl, v', q1, q2, q3, q4⟩
    refine ⟨true, rfl, q3.mono fun x _ hx => ?_, fun _ => ⟨?_, h.far, v', q1, ?_, fun x hx => ?_⟩, fun q => by cases q⟩
    · rcases hx with rfl | hx
      · intro q; have := h.far _ q; omega
      · exact (v3 x hx).2
    · refine h.chg.trans q3 fun i hi hx => ?_
      rcases hx with hx | hx
      · exact hx
      · have := (v3 i hx).1; omega
    · rw [outF_yes ht, List.length_append]
      exact q2
    · rcases q4 x hx with q | q
      · exact v3 x q
      · refine ⟨by omega, fun hf => ?_⟩
        have := hlt x hf
        omega
/-- What Span hands back: its row, or the fault. -/
def SpanPost (w : World) (n : Int) (L : List He) (e : Ending) (w' : World) : Prop := Ext w w' ∧ (((hvF n L).2 ≠ 0 ∧ e = .returned (.tuple #[.slice none 0 0, errVU (hvF n L).2])) ∨ (OkH n L ∧ (∃ f, Ord L f) ∧ ∃ R c, e = .returned (.tuple #[.slice R (spanH L).length c, .nilIface]) ∧ w'.ownsRow 0 3 1 (.slice R (spanH L).length c) (spanH L).length (intsV (spanH L)) ∧ ∀ x, (Value.slice R (spanH L).length c).ownBlock = some x → w.heap.size ≤ x))
set_option maxHeartbeats 1000000 in
set_option maxRecDepth 100000 in
theorem span_any (w : World) (n : Int) (A : Option Addr) (len c : Nat) (L : List He) (hl : L.length = len) (hlm : len ≤ 9223372036854775807) (h : HvAt w A L) :
    Calls Tryz.prog 15 #[.int .i64 n, .slice A len c] w (SpanPost w n L) := by
  have H := Lib.hid h
  have HL := Lib.hid hl
  clear h hl
  go_enter Tryz.func15, Tryz.ntmps15
  go_wp2_with fail
  go_at_call 22
  refine (scheck_any w n A len c L HL.out hlm H.out).mono ?_
  rintro e w1 ⟨rfl, hx1⟩
  have HX1 : Hid (Ext w w1) := hx1
  clear hx1
  obtain ⟨p, hp⟩ : ∃ p, (hvF n L).1 = p := ⟨_, rfl⟩
  obtain ⟨q, hq⟩ : ∃ q, (hvF n L).2 = q := ⟨_, rfl⟩
  rw [hp, hq]
  have HQ := Lib.hid hq
  clear hp hq
  by_cases hq0 : q = 0
  · subst hq0
    have HOK := Lib.hid (okH_of.1 HQ.out)
    rw [show errH 0 = .nilIface from rfl]
    obtain ⟨m, hm⟩ := Int.eq_ofNat_of_zero_le (show 0 ≤ n by have := HOK.out.n1; omega)
    subst hm
    go_upto_region 5 with fail
    obtain ⟨w2, hw2⟩ : ∃ w2, w1.alloc (.cells #[.slice none 0 0] 39) = w2 := ⟨_, rfl⟩
    have HB2 : Hid (Blk w2 w1.heap.size 39 #[.slice none 0 0] ∧ Ext w1 w2) := by
      subst hw2
      exact ⟨Blk.new w1 39 #[.slice none 0 0], Ext.alloc _ _⟩
    rw [hw2]
    clear hw2
    have hxw : Ext w w2 := Ext.trans HX1.out HB2.out.2
    have z1 := HX1.out.size
    have z2 := HB2.out.1.lt
    have hH2 := H.out.ext hxw
    have hbs : L ≠ [] → ∀ x, A = some x → x.block ≠ w1.heap.size := fun hne x hx => by
      rcases H.out with h | ⟨b, off, hA, hb, _⟩
      · exact absurd h hne
      · rw [hA] at hx; injection hx with hx; subst hx; simp only; omega
    have HG := Lib.hid (grow_any 39 _ w2 m A len c L HL.out HOK.out hH2 (fun f => SSt w2 w1.heap.size L f) (fun _ => False) (enters_of Tryz.func39 (by kernel_rfl) rfl) (fun f ho => span_each w2 m L HOK.out A w1.heap.size z2 hbs hH2 f ho) (fun f F W' ho hx hF => ⟨Chg.of_below hx |>.mono (fun k hk q => absurd q (by omega)), hF, .slice none 0 0, HB2.out.1.chg (Chg.of_below hx) (by omega), by rw [outF_zero]; exact World.ownsRow_nil _ _ _ _, fun x hx => by simp [Value.ownBlock] at hx⟩))
    have HXW := Lib.hid hxw
    clear z1 z2 hH2 hbs hxw
    go_wp2_with fail
    go_at_call 23
    refine HG.out.mono ?_
    rintro e w3 ⟨rfl, h3⟩
    have H3 := Lib.hid h3
    clear h3 HG
    rcases H3.out with ⟨f, F, ho, _, hS⟩ | hf
    · obtain ⟨v, v1, v2, v3⟩ := hS.out
      obtain ⟨R, cr, rfl, hcr⟩ := own_slice v2
      have HS := Lib.hid (sort_any w3 _ _ _ v2 (by have := outF_len L f L.length; have := HOK.out.len; omega))
      have c4 : w3.cell? ⟨w1.heap.size, 0, none⟩ = some (.slice R (outF L f L.length).length cr) := v1.cell 0
      have HV : Hid (Blk w3 w1.heap.size 39 #[.slice R (outF L f L.length).length cr] ∧ (∀ x, (Value.slice R (outF L f L.length).length cr).ownBlock = some x → w2.heap.size ≤ x) ∧ Chg (fun x => x = w1.heap.size) w2 w3 ∧ Ord L f) := ⟨v1, fun x hx => (v3 x hx).1, hS.chg, ho⟩
      clear v1 v2 v3 hS ho H3
      go_wp2_with fail
      go_at_call 40
      refine HS.out.mono ?_
      rintro e w4 ⟨rfl, s1, s2⟩
      have z2 := HB2.out.1.lt
      have c5 : w4.cell? ⟨w1.heap.size, 0, none⟩ = some (.slice R (outF L f L.length).length cr) := (HV.out.1.chg s2 fun e => by have := HV.out.2.1 _ e; omega).cell 0
      have HR : Hid (SpanPost w m L (.returned (.tuple #[.slice R (outF L f L.length).length cr, .nilIface])) w4) := by
        have he : sorted (outF L f L.length) = spanH L := HV.out.2.2.2.span (sorted_rises _) (List.mergeSort_perm _ _)
        have hle : (spanH L).length = (outF L f L.length).length := by rw [← he, sorted_length]
        have hx3 : Below w.heap.size w w3 := Below.trans HXW.out (HV.out.2.2.1.below HXW.out.size fun k _ hk => by have := HX1.out.size; omega)
        refine ⟨Below.trans hx3 (s2.below hx3.size fun k _ hk => ?_), .inr ⟨HOK.out, ⟨f, HV.out.2.2.2⟩, R, cr, by rw [hle], ?_, fun x hx => ?_⟩⟩
        · have := HV.out.2.1 k hk; have := HXW.out.size; omega
        · rw [hle, ← he]; exact s1
        · rw [hle] at hx; have := HV.out.2.1 x hx; have := HXW.out.size; omega
      clear s1 s2 HS HV c4
      go_wp2
      go_ret2
      exact HR.out
    · exact hf.elim
  · rw [errH_ne hq0]
    have HN := Lib.hid hq0
    clear hq0
    go_wp2
    go_ret2
    exact ⟨HX1.out, .inl ⟨by rw [HQ.out]; exact HN.out, by rw [HQ.out]; rfl⟩⟩
end Go.Proofs.YtckcbfnffmohgaaGreat
