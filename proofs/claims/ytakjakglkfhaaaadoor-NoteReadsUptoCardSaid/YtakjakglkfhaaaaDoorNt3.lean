/-
  Walk of note.Parse. Condition: the library's two errors lie where they belong.
-/
import Derived.Test.YtakjakglkfhaaaaDoorNt2
namespace Go.Proofs.YtakjakglkfhaaaaDoor
open Go Go.RowKit
set_option linter.unusedVariables false

theorem results_ev {fn : Func} {c u : Tmp} (h : fn.results = #[.cell c 25, .tmp u]) (tmps : Array Value) (w : World) (g : Nat) (hp : tmps.getD c undef = .pointer (some ⟨g, 0, none⟩)) {a b d : Value} (h0 : w.cell? ⟨g, 0, none⟩ = some a) (h1 : w.cell? ⟨g, 1, none⟩ = some b) (h2 : w.cell? ⟨g, 2, none⟩ = some d) :
    (results fn tmps).run Tryd.prog w = .ok (.tuple #[.agg #[a, b, d], tmps.getD u undef]) w := by
  have hl : (loadCells ⟨g, 0, none⟩ 3).run Tryd.prog w = .ok #[a, b, d] w := by
    have := run_loadCells_list (P := Tryd.prog) w ⟨g, 0, none⟩ [a, b, d] (fun j v hj => by
      match j, hj with
      | 0, hj => simp at hj; subst hj; simpa [Addr.add] using h0
      | 1, hj => simp at hj; subst hj; simpa [Addr.add] using h1
      | 2, hj => simp at hj; subst hj; simpa [Addr.add] using h2)
    simpa using this
  have a1 := Tryd.isAgg25
  have z1 := Tryd.sizeOf25
  have hp' : tmps[c]?.getD undef = .pointer (some ⟨g, 0, none⟩) := by simpa using hp
  simp [results, h, hp', loadVar, asAddr, a1, z1, hl]
/-- Is it the text of an event? -/
def IsTxt (s : ByteArray) (W A B : Nat) : Prop := NT.Vd W A B ∧ s.data.toList = NT.txt W A B
def PsPost (s : ByteArray) (w : World) (e : Ending) (w' : World) : Prop := Ext w w' ∧ ((∃ W A B : Nat, IsTxt s W A B ∧ e = .returned (.tuple #[.agg #[.int .i64 (W : Int), .int .i64 (A : Int), .int .i64 (B : Int)], .nilIface])) ∨
  ((∀ W A B : Nat, ¬ IsTxt s W A B) ∧ e = .returned (.tuple #[.agg #[.int .i64 0, .int .i64 0, .int .i64 0], .iface 26 (.int .i64 5)])))
theorem str_eq {s : ByteArray} {l : List UInt8} (h : s.data.toList = l) : (⟨l.toArray⟩ : ByteArray) = s := by
  apply ByteArray.ext
  apply Array.toList_inj.1
  simp [h]
/-- The result's block, written anew. -/
def w3c (W : World) (R : Nat) (a b d : Value) : World := ((W.setCell ⟨R, 0, none⟩ a).setCell ⟨R, 1, none⟩ b).setCell ⟨R, 2, none⟩ d
theorem w3c_blk {W : World} {R : Nat} {x y z : Value} (h : Blk W R 25 #[x, y, z]) (a b d : Value) : Blk (w3c W R a b d) R 25 #[a, b, d] := by
  have := ((h.set_ 0 a).set_ 1 b).set_ 2 d
  simpa [w3c] using this
theorem w3c_ext {w W : World} (h : Ext w W) (a b d : Value) : Ext w (w3c W w.heap.size a b d) :=
  ((((Chg.of_below h).setCell (p := ⟨w.heap.size, 0, none⟩) (fun _ => Nat.le_refl _) a).setCell (p := ⟨w.heap.size, 1, none⟩) (fun _ => Nat.le_refl _) b).setCell (p := ⟨w.heap.size, 2, none⟩) (fun _ => Nat.le_refl _) d).below (Nat.le_refl _) (fun _ _ h => h)
theorem ps_no {s : ByteArray} {w W : World} {tmps : Array Value} {x y z : Value} (hb : Blk W w.heap.size 25 #[x, y, z]) (hx : Ext w W) (hn : ∀ W A B : Nat, ¬ IsTxt s W A B) (hp : tmps.getD 2 undef = .pointer (some ⟨w.heap.size, 0, none⟩)) (he : tmps.getD 3 undef = .iface 26 (.int .i64 5)) :
    bodyPost Tryd.prog Tryd.f19 (PsPost s w) .ret ⟨tmps, []⟩ (((W.setCell ⟨w.heap.size, 0, none⟩ (.int .i64 0)).setCell ⟨w.heap.size, 1, none⟩ (.int .i64 0)).setCell ⟨w.heap.size, 2, none⟩ (.int .i64 0)) := by
  have h := w3c_blk hb (.int .i64 0) (.int .i64 0) (.int .i64 0)
  refine bodyPost_ret (results_ev rfl _ _ w.heap.size hp (h.cell 0) (h.cell 1) (h.cell 2)) rfl ?_
  exact ⟨w3c_ext hx _ _ _, .inr ⟨hn, congrArg (fun z => Ending.returned (.tuple #[.agg #[.int .i64 0, .int .i64 0, .int .i64 0], z])) he⟩⟩
theorem ps_yes {s : ByteArray} {w W0 : World} {tmps : Array Value} {x y z : Value} {W A B : Nat} (hb : Blk W0 w.heap.size 25 #[x, y, z]) (hx : Ext w W0) (ht : IsTxt s W A B) (hp : tmps.getD 2 undef = .pointer (some ⟨w.heap.size, 0, none⟩)) (he : tmps.getD 3 undef = .nilIface) :
    bodyPost Tryd.prog Tryd.f19 (PsPost s w) .ret ⟨tmps, []⟩ (((W0.setCell ⟨w.heap.size, 0, none⟩ (.int .i64 (W : Int))).setCell ⟨w.heap.size, 1, none⟩ (.int .i64 (A : Int))).setCell ⟨w.heap.size, 2, none⟩ (.int .i64 (B : Int))) := by
  have h := w3c_blk hb (.int .i64 (W : Int)) (.int .i64 (A : Int)) (.int .i64 (B : Int))
  refine bodyPost_ret (results_ev rfl _ _ w.heap.size hp (h.cell 0) (h.cell 1) (h.cell 2)) rfl ?_
  exact ⟨w3c_ext hx _ _ _, .inl ⟨W, A, B, ht, congrArg (fun z => Ending.returned (.tuple #[.agg #[.int .i64 (W : Int), .int .i64 (A : Int), .int .i64 (B : Int)], z])) he⟩⟩
set_option maxRecDepth 100000 in
set_option maxHeartbeats 4000000 in
theorem parse_any (s : ByteArray) (hs : s.size ≤ 140737488355328) (w : World) (he : Errs w) : Calls Tryd.prog 19 #[.string s] w (PsPost s w) := by
  have HER := Lib.hid he
  clear he
  have e0 : s.size = s.data.toList.length := by rw [Array.length_toList]; rfl
  rcases hl : s.data.toList with _ | ⟨ch, r⟩
  · have hsz : s.size = 0 := by rw [e0, hl]; rfl
    have HN : Hid (∀ W A B : Nat, ¬ IsTxt s W A B) := fun W A B h => by have := h.2; rw [hl] at this; simp [NT.txt] at this
    have hse : s = ⟨#[]⟩ := (str_eq (l := []) hl).symm
    subst hse
    clear hl e0 hsz hs
    go_enter Tryd.func19, Tryd.ntmps19
    go_wp2
    refine bodyPost_ret (results_ev rfl _ _ w.heap.size rfl ((Blk.new w 25 _).cell 0) ((Blk.new w 25 _).cell 1) ((Blk.new w 25 _).cell 2)) rfl ?_
    exact ⟨Ext.alloc _ _, .inr ⟨HN.out, rfl⟩⟩
  · have hsz : 1 ≤ s.size := by rw [e0, hl]; simp
    have z1 : s.toList.isEmpty = false := by rw [ByteArray.toList_eq, hl]; rfl
    have z2 : (1 : Int) ≤ (s.size : Int) := by omega
    have hcl : (s.extract 1 s.size).data.toList = r := by rw [str_drop _ _ hsz, hl]; rfl
    have hrl : r.length ≤ 140737488355328 := by
      rw [e0, hl] at hs
      simp at hs; omega
    have hcs : (s.extract 1 s.size).size ≤ 4611686018427387904 := by
      have : (s.extract 1 s.size).size = (s.extract 1 s.size).data.toList.length := by rw [Array.length_toList]; rfl
      rw [this, hcl]
      omega
    have hch : s[0]'hsz = ch := by
      have : s.data.toList[0]'(by rw [hl]; simp) = ch := by simp [hl]
      rw [← this]; rfl
    have hb : Blk (w.alloc (.cells #[.int .i64 0, .int .i64 0, .int .i64 0] 25)) w.heap.size 25 #[.int .i64 0, .int .i64 0, .int .i64 0] := Blk.new _ _ _
    have HB := Lib.hid hb
    have HRL := Lib.hid hrl
    have HCS := Lib.hid hcs
    have HCL := Lib.hid hcl
    have HL := Lib.hid hl
    obtain ⟨ix, hix⟩ : ∃ t, Lib.indexByte NT.sgs ch = t := ⟨_, rfl⟩
    have HIX : Hid (∀ w, Calls Tryd.prog 43 #[.string ⟨#[43, 45, 63]⟩, .int .u8 ((s[0]'hsz).toNat : Int)] w fun e w' => e = .returned (.int .i64 ix) ∧ w' = w) := fun w => by
      have := sh_strings_IndexByte ⟨#[43, 45, 63]⟩ ((s[0]'hsz).toNat : Int) w
      rw [hch] at this ⊢
      have e2 : Lib.indexByte (⟨#[43, 45, 63]⟩ : ByteArray).data.toList ((ch.toNat : Int)).toNat.toUInt8 = ix := by
        rw [← hix, Int.toNat_natCast]
        congr 1
        exact UInt8.ofNat_toNat
      rwa [e2] at this
    have hix2 := NT.idx_le ch
    rw [hix] at hix2
    obtain ⟨i1, i2⟩ := hix2
    have HIXE := Lib.hid hix
    clear hs hcs hcl hl e0 hrl hch hb hix
    go_enter Tryd.func19, Tryd.ntmps19
    go_wp2_with fail
    refine (cut_any (s.extract 1 s.size) HCS.out _).mono ?_
    rintro e w1 ⟨a, b, fnd, rfl, ha, hb, hx1⟩
    rw [HCL.out] at ha hb
    have HX1 : Hid (Ext w w1) := Ext.trans (Ext.alloc _ _) hx1
    have HB1 := Lib.hid (HB.out.chg (Chg.of_below hx1) (by have := HB.out.lt; omega))
    have HA := Lib.hid ha
    have HBB := Lib.hid hb
    have HAS : Hid (a.size ≤ 281474976710656) := by
      have : a.size = a.data.toList.length := by rw [Array.length_toList]; rfl
      rw [Hid, this, ha]
      have : (NT.cutA r).length ≤ r.length := (List.takeWhile_prefix _).sublist.length_le
      have := HRL.out
      omega
    have HBS : Hid (b.size ≤ 281474976710656) := by
      have : b.size = b.data.toList.length := by rw [Array.length_toList]; rfl
      rw [Hid, this, hb]
      have : (NT.cutB r).length ≤ r.length := ((List.drop_sublist _ _).trans (List.dropWhile_sublist _)).length_le
      have := HRL.out
      omega
    clear hx1 ha hb HB HCS
    go_wp2_with fail
    refine (atoi_any a HAS.out w1 (HER.out.ext HX1.out)).mono ?_
    intro e w2 hp
    obtain ⟨hx2, hp⟩ := hp
    have HX2 : Hid (Ext w w2) := Ext.trans HX1.out hx2
    have HB2 := Lib.hid (HB1.out.chg (Chg.of_below hx2) (by have := HB1.out.lt; omega))
    clear hx2 HX1 HB1
    have bad : Hid ((∀ v, Lib.atoiAll a.data.toList ≠ .ok v) ∨ (∀ v, Lib.atoiAll b.data.toList ≠ .ok v) → ∀ W A B : Nat, ¬ IsTxt s W A B) := fun h W A B ht => by
      obtain ⟨_, h1, h2⟩ := NT.txt_read ht.1 (HL.out.symm.trans ht.2)
      rw [← HA.out] at h1
      rw [← HBB.out] at h2
      rcases h with h | h
      · exact h _ h1
      · exact h _ h2
    have BAD : ∀ (tp : Value) (w5 : World), True := fun _ _ => trivial
    clear BAD
    rcases hp with ⟨x, hxa, rfl⟩ | ⟨hna, x, p, rfl⟩
    · have HXA := Lib.hid hxa
      clear hxa
      go_wp2_with fail
      refine (atoi_any b HBS.out w2 (HER.out.ext HX2.out)).mono ?_
      intro e w3 hp
      obtain ⟨hx3, hp⟩ := hp
      have HX3 : Hid (Ext w w3) := Ext.trans HX2.out hx3
      have HB3 := Lib.hid (HB2.out.chg (Chg.of_below hx3) (by have := HB2.out.lt; omega))
      clear hx3 HX2 HB2
      rcases hp with ⟨y, hyb, rfl⟩ | ⟨hnb, y, p, rfl⟩
      · have HYB := Lib.hid hyb
        clear hyb
        go_wp2_with fail
        refine (HIX.out w3).mono ?_
        rintro e w4 ⟨rfl, rfl⟩
        obtain ⟨w5, hw5⟩ : ∃ w5, w4.alloc (.cells #[.int .i64 (ix + 1), .int .i64 x, .int .i64 y] 25) = w5 := ⟨_, rfl⟩
        have HB5 : Hid (Blk w5 w.heap.size 25 #[.int .i64 0, .int .i64 0, .int .i64 0]) := by rw [Hid, ← hw5]; exact HB3.out.alloc _
        have HE5 : Hid (Blk w5 w4.heap.size 25 #[.int .i64 (ix + 1), .int .i64 x, .int .i64 y]) := by rw [Hid, ← hw5]; exact Blk.new _ _ _
        have HX5 : Hid (Ext w w5) := by rw [Hid, ← hw5]; exact Ext.trans HX3.out (Ext.alloc _ _)
        have e0 : w5.cell? ⟨w4.heap.size, 0, none⟩ = some (.int .i64 (ix + 1)) := HE5.out.cell 0
        have e1 : w5.cell? ⟨w4.heap.size, 1, none⟩ = some (.int .i64 x) := HE5.out.cell 1
        have e2 : w5.cell? ⟨w4.heap.size, 2, none⟩ = some (.int .i64 y) := HE5.out.cell 2
        have HRD : Hid (∀ W A B : Nat, IsTxt s W A B → ix + 1 = (W : Int) ∧ x = (A : Int) ∧ y = (B : Int)) := fun W A B ht => by
          obtain ⟨h0, h1, h2⟩ := NT.txt_read ht.1 (HL.out.symm.trans ht.2)
          rw [← HA.out, HXA.out] at h1
          rw [← HBB.out, HYB.out] at h2
          injection h1 with h1
          injection h2 with h2
          exact ⟨by rw [← HIXE.out]; exact h0, h1, h2⟩
        by_cases hbad : evBad (ix + 1) x y = true
        · have HN : Hid (∀ W A B : Nat, ¬ IsTxt s W A B) := fun W A B ht => by
            obtain ⟨h0, h1, h2⟩ := HRD.out W A B ht
            have := ht.1
            have := this.w1; have := ht.1.w3; have := ht.1.a; have := ht.1.b
            simp [evBad] at hbad
            omega
          have HT := Lib.hid (text_bad (ix + 1) x y hbad w5)
          have HBAD := Lib.hid hbad
          clear hbad
          go_wp2_with fail
          refine HT.out.mono ?_
          intro e w6 hp
          obtain ⟨hx6, ⟨_, rfl⟩ | ⟨h, _, _, _, _, _, _, _, rfl⟩⟩ := hp
          case inr => rw [HBAD.out] at h; cases h
          have HB6 := Lib.hid (HB5.out.chg (Chg.of_below hx6) (by have := HB5.out.lt; omega))
          have HX6 : Hid (Ext w w6) := Ext.trans HX5.out hx6
          have c0 : w6.cell? ⟨w.heap.size, 0, none⟩ = some (.int .i64 0) := HB6.out.cell 0
          have c1 : w6.cell? ⟨w.heap.size, 1, none⟩ = some (.int .i64 0) := HB6.out.cell 1
          have c2 : w6.cell? ⟨w.heap.size, 2, none⟩ = some (.int .i64 0) := HB6.out.cell 2
          have f0 := HB6.out.frozen 0
          have f1 := HB6.out.frozen 1
          have f2 := HB6.out.frozen 2
          clear hx6 hw5 e0 e1 e2 HT
          go_wp2
          exact ps_no HB6.out HX6.out HN.out rfl rfl
        · have hv : 1 ≤ ix + 1 ∧ ix + 1 ≤ 3 ∧ 0 ≤ x ∧ x < 60 ∧ 0 ≤ y ∧ y < 60 := by simp [evBad] at hbad; omega
          obtain ⟨W, hW⟩ := Int.eq_ofNat_of_zero_le (show 0 ≤ ix + 1 by omega)
          obtain ⟨A, rfl⟩ := Int.eq_ofNat_of_zero_le (show 0 ≤ x by omega)
          obtain ⟨B, rfl⟩ := Int.eq_ofNat_of_zero_le (show 0 ≤ y by omega)
          have hvd : NT.Vd W A B := ⟨by omega, by omega, by omega, by omega⟩
          have HVD := Lib.hid hvd
          rw [hW] at e0 hw5 HE5
          have HT := Lib.hid (text_ok W A B hvd w5)
          obtain ⟨t, ht⟩ : ∃ t : ByteArray, (⟨(NT.txt W A B).toArray⟩ : ByteArray) = t := ⟨_, rfl⟩
          rw [ht] at HT
          have htl : t.data.toList = NT.txt W A B := by rw [← ht]
          have HTL := Lib.hid htl
          have HWE := Lib.hid hW
          clear hbad hv hvd ht htl
          go_wp2_with fail
          refine HT.out.mono ?_
          rintro e w6 ⟨rfl, hx6⟩
          have HB6 := Lib.hid (HB5.out.chg (Chg.of_below hx6) (by have := HB5.out.lt; omega))
          have HE6 := Lib.hid (HE5.out.chg (Chg.of_below hx6) (by have := HE5.out.lt; omega))
          have HX6 : Hid (Ext w w6) := Ext.trans HX5.out hx6
          have c0 : w6.cell? ⟨w.heap.size, 0, none⟩ = some (.int .i64 0) := HB6.out.cell 0
          have c1 : w6.cell? ⟨w.heap.size, 1, none⟩ = some (.int .i64 0) := HB6.out.cell 1
          have c2 : w6.cell? ⟨w.heap.size, 2, none⟩ = some (.int .i64 0) := HB6.out.cell 2
          have f0 := HB6.out.frozen 0
          have f1 := HB6.out.frozen 1
          have f2 := HB6.out.frozen 2
          have d0 : w6.cell? ⟨w4.heap.size, 0, none⟩ = some (.int .i64 (W : Int)) := HE6.out.cell 0
          have d1 : w6.cell? ⟨w4.heap.size, 1, none⟩ = some (.int .i64 (A : Int)) := HE6.out.cell 1
          have d2 : w6.cell? ⟨w4.heap.size, 2, none⟩ = some (.int .i64 (B : Int)) := HE6.out.cell 2
          clear hx6 hw5 e0 e1 e2 HT hW
          by_cases hts : t = s
          · subst hts
            have HI : Hid (IsTxt t W A B) := ⟨HVD.out, HTL.out⟩
            go_wp2
            exact ps_yes HB6.out HX6.out HI.out rfl rfl
          · have HN : Hid (∀ W A B : Nat, ¬ IsTxt s W A B) := fun W' A' B' hi => by
              obtain ⟨h0, h1, h2⟩ := HRD.out W' A' B' hi
              have h3 := HWE.out
              obtain rfl : W = W' := by omega
              obtain rfl : A = A' := by omega
              obtain rfl : B = B' := by omega
              refine hts ?_
              apply ByteArray.ext
              apply Array.toList_inj.1
              rw [HTL.out, hi.2]
            have q0 : (t.toList == s.toList) = false := by
              rw [beq_eq_false_iff_ne]
              intro h
              refine hts ?_
              apply ByteArray.ext
              apply Array.toList_inj.1
              rw [ByteArray.toList_eq, ByteArray.toList_eq] at h
              exact h
            have q1 : (!t.toList == s.toList) = true := by rw [q0]; rfl
            go_wp2
            exact ps_no HB6.out HX6.out HN.out rfl rfl
      · have HN := Lib.hid (bad.out (.inr hnb))
        clear hnb
        go_wp2_with fail
        refine (HIX.out w3).mono ?_
        rintro e w4 ⟨rfl, rfl⟩
        have c0 : ∀ o, (w4.alloc o).cell? ⟨w.heap.size, 0, none⟩ = some (.int .i64 0) := fun o => (HB3.out.alloc o).cell 0
        have c1 : ∀ o, (w4.alloc o).cell? ⟨w.heap.size, 1, none⟩ = some (.int .i64 0) := fun o => (HB3.out.alloc o).cell 1
        have c2 : ∀ o, (w4.alloc o).cell? ⟨w.heap.size, 2, none⟩ = some (.int .i64 0) := fun o => (HB3.out.alloc o).cell 2
        have f0 : ∀ o, (w4.alloc o).frozen? ⟨w.heap.size, 0, none⟩ = false := fun o => (HB3.out.alloc o).frozen 0
        have f1 : ∀ o, (w4.alloc o).frozen? ⟨w.heap.size, 1, none⟩ = false := fun o => (HB3.out.alloc o).frozen 1
        have f2 : ∀ o, (w4.alloc o).frozen? ⟨w.heap.size, 2, none⟩ = false := fun o => (HB3.out.alloc o).frozen 2
        go_wp2
        exact ps_no (HB3.out.alloc _) (Ext.trans HX3.out (Ext.alloc _ _)) HN.out rfl rfl
    · have HN := Lib.hid (bad.out (.inl hna))
      clear hna
      go_wp2_with fail
      refine (atoi_any b HBS.out w2 (HER.out.ext HX2.out)).mono ?_
      intro e w3 hp
      obtain ⟨hx3, hp⟩ := hp
      have HX3 : Hid (Ext w w3) := Ext.trans HX2.out hx3
      have HB3 := Lib.hid (HB2.out.chg (Chg.of_below hx3) (by have := HB2.out.lt; omega))
      clear hx3 HX2 HB2
      rcases hp with ⟨y, _, rfl⟩ | ⟨_, y, p, rfl⟩
      · go_wp2_with fail
        refine (HIX.out w3).mono ?_
        rintro e w4 ⟨rfl, rfl⟩
        have c0 : ∀ o, (w4.alloc o).cell? ⟨w.heap.size, 0, none⟩ = some (.int .i64 0) := fun o => (HB3.out.alloc o).cell 0
        have c1 : ∀ o, (w4.alloc o).cell? ⟨w.heap.size, 1, none⟩ = some (.int .i64 0) := fun o => (HB3.out.alloc o).cell 1
        have c2 : ∀ o, (w4.alloc o).cell? ⟨w.heap.size, 2, none⟩ = some (.int .i64 0) := fun o => (HB3.out.alloc o).cell 2
        have f0 : ∀ o, (w4.alloc o).frozen? ⟨w.heap.size, 0, none⟩ = false := fun o => (HB3.out.alloc o).frozen 0
        have f1 : ∀ o, (w4.alloc o).frozen? ⟨w.heap.size, 1, none⟩ = false := fun o => (HB3.out.alloc o).frozen 1
        have f2 : ∀ o, (w4.alloc o).frozen? ⟨w.heap.size, 2, none⟩ = false := fun o => (HB3.out.alloc o).frozen 2
        go_wp2
        exact ps_no (HB3.out.alloc _) (Ext.trans HX3.out (Ext.alloc _ _)) HN.out rfl rfl
      · go_wp2_with fail
        refine (HIX.out w3).mono ?_
        rintro e w4 ⟨rfl, rfl⟩
        have c0 : ∀ o, (w4.alloc o).cell? ⟨w.heap.size, 0, none⟩ = some (.int .i64 0) := fun o => (HB3.out.alloc o).cell 0
        have c1 : ∀ o, (w4.alloc o).cell? ⟨w.heap.size, 1, none⟩ = some (.int .i64 0) := fun o => (HB3.out.alloc o).cell 1
        have c2 : ∀ o, (w4.alloc o).cell? ⟨w.heap.size, 2, none⟩ = some (.int .i64 0) := fun o => (HB3.out.alloc o).cell 2
        have f0 : ∀ o, (w4.alloc o).frozen? ⟨w.heap.size, 0, none⟩ = false := fun o => (HB3.out.alloc o).frozen 0
        have f1 : ∀ o, (w4.alloc o).frozen? ⟨w.heap.size, 1, none⟩ = false := fun o => (HB3.out.alloc o).frozen 1
        have f2 : ∀ o, (w4.alloc o).frozen? ⟨w.heap.size, 2, none⟩ = false := fun o => (HB3.out.alloc o).frozen 2
        go_wp2
        exact ps_no (HB3.out.alloc _) (Ext.trans HX3.out (Ext.alloc _ _)) HN.out rfl rfl
end Go.Proofs.YtakjakglkfhaaaaDoor
