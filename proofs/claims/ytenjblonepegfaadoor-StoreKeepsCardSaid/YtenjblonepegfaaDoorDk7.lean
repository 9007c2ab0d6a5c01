/-
  Walk of (*Disk).Crash, its loop. Condition: the disk lies in memory as 'DAt' says, the row 'keep' as 'IntsAt', not in the disk's blocks.
-/
import Derived.Test.YtenjblonepegfaaDoorDk6
namespace Go.Proofs.YtenjblonepegfaaDoor
open Go Go.RowKit

theorem ws_form {w : World} {u : Dsk} {n : Nat} {d : DK.D} (h : DAt w u n d) : ∃ B c, u.wv = .slice B d.ws.length c ∧ d.ws.length ≤ maxLen ∧ (0 < d.ws.length → ∃ g, B = some ⟨g, 0, none⟩) := by
  rcases h.rw.2 with ⟨h1, h2⟩ | ⟨g, cap, cur, h1, _, _, h2, h3, _⟩
  · rw [h2]; exact ⟨none, 0, h1, by unfold maxLen; omega, fun h => by omega⟩
  · exact ⟨some ⟨g, 0, none⟩, cap, h1, Nat.le_trans h2 h3, fun _ => ⟨g, rfl⟩⟩

theorem wpList_store_new {P : Program} (W : World) {ops : Array Oper} {rest : List Oper} {o : Oper} {a : Act} {Q : Exit → Act → World → Prop} (hgd : o.guard = none) (ty : TypeId) (x y : Operand) (ho : o.op = .store ty x y)
    (C : Array Value) (t : TypeId) (S : Nat) (hC : C.size = S) (X : List Value) (hX : X.length = S) (h1 : ∀ v ∈ X, v.oneCell' = true) (hi : (P.info? ty).map (·.size) = some S)
    (hx : a.eval x = .pointer (some ⟨W.heap.size, 0, none⟩)) (hy : a.eval y = .agg X.toArray)
    (h : ∀ w', Hid (w'.rangeAt W.heap.size 0 X) → Below W.heap.size W w' → wpList P ops Q rest (a.put o.dst undef) w') : wpList P ops Q (o :: rest) a (W.alloc (.cells C t)) := by
  have hb : Blk (W.alloc (.cells C t)) W.heap.size t C := Blk.new _ _ _
  have ht : (W.alloc (.cells C t)).there W.heap.size 0 S := fun j hj => ⟨by rw [hb.cell, Array.getElem?_eq_getElem (by omega)]; rfl, hb.frozen _⟩
  refine wpList_store_mid hgd ty x y ho W.heap.size 0 X.toArray hx hy (by simpa [hX] using ht) (by simpa [hX] using hi) (all_oneCell_toArray h1) ?_
  refine h _ (World.rangeAt_setCells_same _ _ _ _ (by simpa [hX] using ht)) ?_
  exact (chg_setCells _ _ _ (Chg.of_below ((Below.refl _ _).alloc (Nat.le_refl _) _)) (fun _ => Nat.le_refl _)).below (Nat.le_refl _) (fun _ _ h => h)
theorem infoW : (Tryd.prog.info? 126).map (·.size) = some 33 := by kernel_rfl
theorem DAt.ws_range {w : World} {u : Dsk} {n : Nat} {d : DK.D} (h : DAt w u n d) {g L c : Nat} (hv : u.wv = .slice (some ⟨g, 0, none⟩) L c) (hL : L = d.ws.length) {k : Nat} {x : Nat × DK.Pg} (hx : d.ws[k]? = some x) : w.rangeAt g (k * 33) (DK.wrv x) := by
  subst hL
  have := h.rw
  rw [hv] at this
  exact own_range this (fun _ _ h' => rowsOf_get h.ok.wl hx h')
theorem cr_skip {w wr w3 : World} {u : Dsk} {n : Nat} {d : DK.D} {keep : List Int} {A : Option Addr} {k : Nat} {x : Nat × DK.Pg} (h : CrRel w u n d keep A k wr) (hb : Below wr.heap.size wr w3) (hx : d.ws[k]? = some x) (hk : decide ((k : Int) ∈ keep) = false) : CrRel w u n d keep A (k + 1) w3 := by
  obtain ⟨h0, h1, h2, h3⟩ := h
  have hl : k ≤ d.ws.length := Nat.le_of_lt (List.getElem?_eq_some_iff.1 hx).1
  refine ⟨h0, ?_, h2.ext hb, ⟨hb.os.trans h3.os, hb.tape.trans h3.tape, hb.output.trans h3.output, Nat.le_trans h3.size hb.size, fun i hi hn => (hb.block i (Nat.lt_of_lt_of_le hi h3.size)).trans (h3.block i hi hn)⟩⟩
  rw [take_snoc' hx, DK.lay_snoc, if_neg (by simpa [Nat.min_eq_left hl] using hk)]
  exact h1.ext hb
theorem cr_lay {w wr w3 : World} {u : Dsk} {n : Nat} {d : DK.D} {keep : List Int} {A : Option Addr} {k : Nat} {x : Nat × DK.Pg} {X : List Value} (h : CrRel w u n d keep A k wr) (hb : Below wr.heap.size wr w3) (hx : d.ws[k]? = some x) (hk : decide ((k : Int) ∈ keep) = true) (hX : X = DK.pgv x.2) (hA : keep ≠ [] → ∀ y, A = some y → ¬ u.fp y.block) : CrRel w u n d keep A (k + 1) (w3.drew.setCells u.gk (x.1 * 32) X) := by
  obtain ⟨h0, h1, h2, h3⟩ := h
  subst hX
  have hl : k ≤ d.ws.length := Nat.le_of_lt (List.getElem?_eq_some_iff.1 hx).1
  have hw := h0.wp _ (List.mem_of_getElem? hx)
  have c : Chg (fun j => j = u.gk) w3 (w3.drew.setCells u.gk (x.1 * 32) (DK.pgv x.2)) := chg_setCells _ _ _ ((Chg.refl _ w3).drew) (fun _ => rfl)
  have c3 : Chg (fun j => j = u.gk) w w3 := ⟨hb.os.trans h3.os, hb.tape.trans h3.tape, hb.output.trans h3.output, Nat.le_trans h3.size hb.size, fun i hi hn => (hb.block i (Nat.lt_of_lt_of_le hi h3.size)).trans (h3.block i hi hn)⟩
  refine ⟨h0, ?_, (h2.ext hb).chg c (fun h0 y hy e => hA h0 y hy (.inr (.inl e))), c3.trans c (fun _ _ h => h)⟩
  have h4 := ((h1.ext hb).chg ((Chg.refl (fun _ => False) w3).drew) (fun _ _ h => h)).setKept hw.2 hw.1
  rw [take_snoc' hx, DK.lay_snoc, if_pos (by simpa [Nat.min_eq_left hl] using hk)]
  exact h4
set_option linter.unusedSimpArgs false in
set_option maxHeartbeats 1000000 in
set_option maxRecDepth 100000 in
theorem dcrash_any (w : World) (u : Dsk) (n : Nat) (d : DK.D) (h : DAt w u n d) (A : Option Addr) (m c : Nat) (keep : List Int) (hk : IntsAt w A keep) (hm : keep.length = m) (hmm : m ≤ maxLen) (hA : keep ≠ [] → ∀ x, A = some x → ¬ u.fp x.block) :
    Calls Tryd.prog 19 #[.pointer (some ⟨u.g, 0, none⟩), .slice A m c] w (DCrash w u n d keep) := by
  obtain ⟨B, wc, hwv, hwl, hB⟩ := ws_form h
  obtain ⟨L, hL⟩ : ∃ L, L = d.ws.length := ⟨_, rfl⟩
  rw [← hL] at hwv hwl hB
  have c2 : w.cell? ⟨u.g, 2, none⟩ = some (.slice B L wc) := by rw [← hwv]; exact h.blk.cell 2
  have HH := Lib.hid h
  have HK := Lib.hid hk
  have HM := Lib.hid hm
  have HA := Lib.hid hA
  have HWV := Lib.hid hwv
  have HB := Lib.hid hB
  have HL := Lib.hid hL
  have HR0 : Hid (CrRel w u n d keep A 0 w) := ⟨h.ok, by simpa [DK.lay] using h, hk, Chg.refl _ _⟩
  unfold maxLen at hwl hmm
  clear h hk hm hA hwv hB hL
  go_enter Tryd.func19, Tryd.ntmps19
  go_wp2
  go_loopw [11] (fun v wr => ∃ k : Nat, k ≤ L ∧ v = .int .i64 k ∧ Hid (CrRel w u n d keep A k wr)) (fun v _ => L - (intOf v).toNat)
  case atStart => exact ⟨0, Nat.zero_le _, rfl, HR0⟩
  case round =>
    obtain ⟨k, hkl, rfl, HR⟩ := hrel
    by_cases hlt : k < L
    · obtain ⟨g, rfl⟩ := HB.out (by omega)
      obtain ⟨x, hx⟩ : ∃ x, d.ws[k]? = some x := ⟨_, List.getElem?_eq_getElem (by rw [← HL.out]; exact hlt)⟩
      obtain ⟨at_, pg⟩ := x
      have hw0 := HH.out.ok.wp _ (List.mem_of_getElem? hx)
      have HX := Lib.hid hx
      have HP := Lib.hid hw0
      have z0 : (0 : Int) ≤ (k : Int) := by omega
      have z1 : (k : Int) < (L : Int) := by omega
      clear hx hw0
      obtain ⟨XW, hXW⟩ : ∃ XW, XW = DK.wrv (at_, pg) := ⟨_, rfl⟩
      have HXW := Lib.hid hXW
      have hXl : XW.length = 33 := by rw [hXW]; exact DK.wrv_len HP.out.1
      have hX1 : ∀ v ∈ XW, v.oneCell' = true := by rw [hXW]; intro v hv; simp [DK.wrv] at hv; rcases hv with rfl | hv; (· rfl); exact pgv_one v hv
      have HXl := Lib.hid hXl
      have HX1 := Lib.hid hX1
      have HRG : Hid (wr.rangeAt g (k * 33) XW) := by rw [hXW]; exact HR.out.2.1.ws_range HWV.out HL.out HX.out
      have HIW : Hid ((Tryd.prog.info? 126).map (·.size) = some XW.length) := by rw [hXl]; exact infoW
      clear hXW hXl hX1
      go_wp2_with (first
        | (refine wpList_load_mid rfl 126 (.tmp 14) rfl g (k * 33) rfl XW _ HRG.out Tryd.underlying126 rfl HIW.out ?_)
        | (refine wpList_store_new wr rfl 126 (.tmp 5) (.tmp 15) rfl _ _ 33 rfl XW HXl.out HX1.out infoW rfl rfl ?_; intro w3 HG3 hb3))
      have HB3 := Lib.hid hb3
      have HI3 : Hid (IntsAt w3 A keep) := HR.out.2.2.1.ext hb3
      have HD3 := Lib.hid (HR.out.2.1.ext hb3)
      have b0 : w3.cell? ⟨u.g, 0, none⟩ = some (.slice (some ⟨u.gk, 0, none⟩) n u.ck) := HD3.out.blk.cell 0
      obtain ⟨X, hX⟩ : ∃ X, X = DK.pgv pg := ⟨_, rfl⟩
      have HXX := Lib.hid hX
      have hWX : XW = Value.int .i64 (at_ : Int) :: X := by rw [HXW.out, hX]; rfl
      have b1 : w3.cell? ⟨wr.heap.size, 0, none⟩ = some (.int .i64 (at_ : Int)) := by
        have := HG3.out 0 (.int .i64 (at_ : Int)) (by rw [hWX]; rfl); simpa using this
      have r1 : w3.rangeAt wr.heap.size 1 X := fun j v hv => by
        have := HG3.out (j + 1) v (by rw [hWX]; simpa using hv)
        rwa [show 0 + (j + 1) = 1 + j by omega] at this
      have r2 : w3.there u.gk (at_ * 32) 32 := own_there HD3.out.rk (by have := HP.out.2; omega)
      have p0 : u.g ≠ u.gk := Ne.symm HD3.out.ggk
      have p1 : wr.heap.size ≠ u.gk := by have : u.gk < wr.heap.size := HR.out.2.1.lt (.inr (.inl rfl)); omega
      have hXl : X.length = 32 := by rw [hX]; exact DK.pgv_len HP.out.1
      have hX1 : ∀ v ∈ X, v.oneCell' = true := by rw [hX]; exact pgv_one
      have hu := Tryd.underlying124
      have hinf : (Tryd.prog.info? 124).map (·.size) = some X.length := by rw [hXl]; kernel_rfl
      have y0 : (0 : Int) ≤ (at_ : Int) := by omega
      have y1 : (at_ : Int) < (n : Int) := by have := HP.out.2; omega
      have hle := HD3.out.le
      clear hX hWX hb3
      refine (contains_any w3 A m c keep k HI3.out HM.out (by omega)).mono ?_
      rintro e w4 ⟨rfl, rfl⟩
      by_cases hin : decide ((k : Int) ∈ keep) = true
      · have HN := Lib.hid hin
        rw [hin]
        clear hin
        have HCL : Hid (CrRel w u n d keep A (k + 1) (w3.drew.setCells u.gk (at_ * 32) X)) := cr_lay (x := (at_, pg)) HR.out HB3.out HX.out HN.out HXX.out HA.out
        go_wp2
        go_region_held (fun w' => w'.cell? ⟨u.g, 0, none⟩ = some (.slice (some ⟨u.gk, 0, none⟩) n u.ck) ∧ w'.cell? ⟨wr.heap.size, 0, none⟩ = some (.int .i64 (at_ : Int)) ∧ w'.rangeAt wr.heap.size 1 X ∧ w'.there u.gk (at_ * 32) 32)
          ((go_split_ands; refine ⟨?_, ?_, ?_, ?_⟩ <;> first | assumption | (exact cell_setCells_far (by assumption) p0 _ _) | (exact cell_setCells_far (by assumption) p1 _ _) | (exact World.rangeAt_setCells_apart (by assumption) _ _ _ (.inl p1)) | (exact World.there_setCells (by assumption) _ _ _))) (fail)
        go_wp2
        go_roundw
        case rel => exact ⟨k + 1, by omega, by go_num, HCL⟩
        case measure => simp [intOf]; omega
      · have hin' : decide ((k : Int) ∈ keep) = false := by simpa using hin
        have HN := Lib.hid hin'
        rw [hin']
        clear hin hin'
        have HCL : Hid (CrRel w u n d keep A (k + 1) w3) := cr_skip HR.out HB3.out HX.out HN.out
        go_wp2
        go_roundw
        case rel => exact ⟨k + 1, by omega, by go_num, HCL⟩
        case measure => simp [intOf]; omega
    · have e : k = L := by omega
      have HE : Hid (CrRel w u n d keep A d.ws.length wr) := by rw [← HL.out, ← e]; exact HR
      have b0 : wr.cell? ⟨u.g, 0, none⟩ = some (.slice (some ⟨u.gk, 0, none⟩) n u.ck) := HE.out.2.1.blk.cell 0
      have hps := HE.out.2.1.pos
      have hle := HE.out.2.1.le
      clear e
      go_wp2_with fail
      refine (pclone_any wr u.gk n u.ck _ hps hle HE.out.2.1.rk).mono ?_
      rintro e w2 ⟨g', c', rfl, hg, ho, hb⟩
      have HG := Lib.hid hg
      have HO := Lib.hid ho
      have HBB := Lib.hid hb
      have HD := Lib.hid (HE.out.2.1.ext hb)
      have b1 : w2.cell? ⟨u.g, 1, none⟩ = some (.slice (some ⟨u.gn, 0, none⟩) n u.cn) := HD.out.blk.cell 1
      have b2 : w2.cell? ⟨u.g, 2, none⟩ = some u.wv := HD.out.blk.cell 2
      have b3 : w2.cell? ⟨u.g, 3, none⟩ = some (.int .i64 d.left) := HD.out.blk.cell 3
      have b4 : w2.cell? ⟨u.g, 4, none⟩ = some (.bool d.down) := HD.out.blk.cell 4
      have f1 := HD.out.blk.frozen 1
      have f2 := HD.out.blk.frozen 2
      have f3 := HD.out.blk.frozen 3
      have f4 := HD.out.blk.frozen 4
      clear hg ho hb
      go_wp2
      go_end0
      exact crash_end HE.out HG.out HO.out HBB.out
end Go.Proofs.YtenjblonepegfaaDoor
