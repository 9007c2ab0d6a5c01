/-
  Walks of tour's Rising and Edges. Conditions: the edges' nodes are below 60; the forest lies in memory as 'FoAt' says.
-/
import Derived.Test.YtgdbnjcnilnnmaaGreatDoorTo7
import Derived.Test.YtgdbnjcnilnnmaaGreatDoorSft
import Derived.Test.YtgdbnjcnilnnmaaGreatDoorMem3
namespace Go.Proofs.YtgdbnjcnilnnmaaGreatDoor
open Go Go.RowKit SQ TR DF PD
set_option linter.unusedVariables false

theorem rising_any (w : World) (v : Value) (A : Option Addr) (c : Nat) (l : List AK.Ed) (hv : v = .slice A l.length c) (hf : ∀ x ∈ l, 0 ≤ x.1 ∧ x.1 < 60 ∧ 0 ≤ x.2 ∧ x.2 < 60) (hn : l.length ≤ 100000) (h : DRow w v l) :
    Calls Tryz.prog 61 #[v] w fun e w' => e = .returned v ∧ DRow w' v (sortedE l) ∧ Chg (fun k => v.ownBlock = some k) w w' := by
  have HS := Lib.hid (sortE_any w v l hf hn h)
  subst hv
  clear h hf
  go_enter Tryz.func61, Tryz.ntmps61
  go_wp2_with fail
  refine HS.out.mono ?_
  rintro e w1 ⟨rfl, h1, h2⟩
  have H1 := Lib.hid h1
  have H2 := Lib.hid h2
  clear h1 h2
  go_wp2
  go_ret
  exact ⟨rfl, H1.out, H2.out⟩
theorem sorted_is {n : Nat} {d E : List AK.Ed} (hn : n ≤ 60) (hok : ∀ x ∈ E, 0 ≤ x.1 ∧ x.1 < x.2 ∧ x.2 < (n : Int)) (hup : E.Pairwise ltE) (hd : d.Nodup) (hm : ∀ x, x ∈ d ↔ x ∈ E) : sortedE d = E := by
  have h2 : (sortedE d).Nodup := sortedE_nodup hd
  refine rises_ext (((sortedE_rises d).and h2).imp_of_mem fun {x y} hx hy h => ?_) hup fun x => by rw [sortedE_mem, hm]
  have a1 := hok x ((hm x).1 (sortedE_mem.1 hx))
  have a2 := hok y ((hm y).1 (sortedE_mem.1 hy))
  obtain ⟨h1, hne⟩ := h
  obtain ⟨x1, x2⟩ := x
  obtain ⟨y1, y2⟩ := y
  simp only at *
  unfold ltE
  simp only
  have : ¬ (x1 = y1 ∧ x2 = y2) := fun w => hne (by rw [w.1, w.2])
  omega
/-- A row of edges of one's own that grows while a map is ranged over. -/
theorem VR.own_ne {α : Type} {k : KK α} {w : World} {b r N s : Nat} {m : α → Option Value} {d : List α} (hm : VR k w b r N s m d) {base : Nat} {e : TypeId} {size : Nat} {v : Value} {n : Nat} {xs : List Value} (h : w.ownsRow base e size v n xs) : v.ownBlock ≠ some r := by
  rcases h.2 with ⟨rfl, _⟩ | ⟨g, cap, cur, rfl, _, hh, _⟩
  · simp [Value.ownBlock]
  · intro he
    have : g = r := by simpa [Value.ownBlock] using he
    subst this
    obtain ⟨D, left, cnt, h1, _⟩ := hm.rg
    obtain ⟨es, clock, since, seen, c0, q1, q2, q3, q4, q5, q6⟩ := h1
    rw [hh] at q5
    cases q5
structure EgR (w : World) (b r N s : Nat) (m : AK.Ed → Option Value) (d : List AK.Ed) (v : Value) (wr : World) : Prop where
  vr : VR kE wr b r N s m d
  row : DRow wr v d
  bel : Below w.heap.size w wr
  new : ∀ j, v.ownBlock = some j → w.heap.size ≤ j
  hr : w.heap.size ≤ r
  hd : d.length ≤ s
def EdgesPost (w : World) (E : List AK.Ed) (e : Ending) (w' : World) : Prop := ∃ A c, e = .returned (.slice A E.length c) ∧ DRow w' (.slice A E.length c) E ∧ Ext w w' ∧ ∀ j, (Value.slice A E.length c).ownBlock = some j → w.heap.size ≤ j
theorem nodup_le_mem {d E : List AK.Ed} (hd : d.Nodup) (h : ∀ x ∈ d, x ∈ E) : d.length ≤ E.length := nodup_le hd h
section
variable {w : World} {F : FoP} {n N : Nat} {E : List AK.Ed}
set_option maxRecDepth 100000 in
set_option maxHeartbeats 2000000 in
theorem tedges_any (h : FoAt w F n N E) : Calls Tryz.prog 23 #[.pointer (some ⟨F.fb, 0, none⟩)] w (EdgesPost w E) := by
  have c2 : w.cell? ⟨F.fb, 2, none⟩ = some (.map (some F.eb)) := h.blk.cell 2
  have h60 := h.hn
  have hfo := Lib.hid h.fo
  obtain ⟨me, k1, k2⟩ := h.edges
  have HM := Lib.hid k2
  have hlen : E.length ≤ n := h.fo.len
  have hebl := k1.lt
  obtain ⟨w1, hrg, hvr, hb1, hs1⟩ := k1.range Tryz.underlying85
  have hrg : (Instr.range 85 (.map (some F.eb))).run Tryz.prog w = .ok (.pointer (some ⟨w.heap.size, 0, none⟩)) w1 := hrg
  have HV := Lib.hid hvr
  have HB := Lib.hid hb1
  clear h k1 k2 hvr hb1
  go_enter Tryz.func23, Tryz.ntmps23
  go_wp2
  go_loopw [3] (fun v wr => ∃ (d : List AK.Ed) (A : Option Addr) (c : Nat), v = .slice A d.length c ∧ Hid (EgR w F.eb w.heap.size N E.length me d (.slice A d.length c) wr)) (fun _ wr => wr.rangeLeft F.eb w.heap.size)
  case atStart => exact ⟨[], none, 0, rfl, HV.out, World.ownsRow_nil _ _ _ _, HB.out, fun j hj => by simp [Value.ownBlock] at hj, Nat.le_refl _, by simp⟩
  case round =>
    obtain ⟨d, A, c, rfl, HR⟩ := hrel
    rcases HR.out.vr.next 0 with ⟨hnx, hall⟩ | ⟨x, v, w2, hox, hxd, hmx, hnx0, hvr2, hlt, hc2, hsz2, hen0⟩
    · have HALL := Lib.hid hall
      have hE : Hid (sortedE d = E) := by
        refine sorted_is h60.2 hfo.out.ok hfo.out.up HR.out.vr.nd fun x => ?_
        constructor
        · intro hx
          have hok := HR.out.vr.okd x hx
          have := (HALL.out x hok).1 hx
          rw [HM.out x hok] at this
          by_cases q : x ∈ E
          · exact q
          · rw [if_neg q] at this; simp at this
        · intro hx
          have h3 := hfo.out.ok x hx
          have hok : kE.ok x := okE_of (by omega) (by omega)
          refine (HALL.out x hok).2 ?_
          rw [HM.out x hok, if_pos hx]; rfl
      have hdl : d.length = E.length := by rw [← hE.out, sortedE_length]
      have hf : ∀ x ∈ d, 0 ≤ x.1 ∧ x.1 < 60 ∧ 0 ≤ x.2 ∧ x.2 < 60 := fun x hx => by
        have := hfo.out.ok x (by rw [← hE.out, sortedE_mem]; exact hx); omega
      have RS := Lib.hid (rising_any wr _ A c d rfl hf (by omega) HR.out.row)
      have HDL := Lib.hid hdl
      clear hall hf hdl
      go_wp2_with fail
      refine RS.out.mono ?_
      rintro e w3 ⟨rfl, h1, h3⟩
      have H1 := Lib.hid h1
      have H3 := Lib.hid h3
      clear h1 h3
      go_wp2
      go_ret
      have q1 := H1.out
      have hdl := HDL.out
      rw [hE.out] at q1
      rw [hdl] at q1 ⊢
      refine ⟨A, c, rfl, q1, ((Chg.of_below HR.out.bel).trans H3.out (fun i hi hs => HR.out.new i hs)).below (Nat.le_refl _) (fun _ _ h => h), fun j hj => HR.out.new j (by rw [hdl]; exact hj)⟩
    · have hxE : x ∈ E := by
        rw [HM.out x hox] at hmx
        by_cases q : x ∈ E
        · exact q
        · rw [if_neg q] at hmx; cases hmx
      obtain ⟨x1, x2⟩ := x
      have hv1 : v = .int .i64 1 := by
        rw [HM.out _ hox, if_pos hxE] at hmx; exact (Option.some.inj hmx).symm
      subst hv1
      have hnx : (Instr.next (.pointer (some ⟨w.heap.size, 0, none⟩)) false 0).run Tryz.prog wr = .ok (.tuple #[.bool true, .agg #[.int .i64 x1, .int .i64 x2], .int .i64 1]) w2 := hnx0
      have hen : (Instr.entry (.pointer (some ⟨w.heap.size, 0, none⟩))).run Tryz.prog w2 = .ok (.tuple #[.agg #[.int .i64 x1, .int .i64 x2], .int .i64 1]) w2 := hen0
      clear hnx0 hen0
      have hdE : d.length + 1 ≤ E.length := by
        have h1 := nodup_le (xs := d ++ [(x1, x2)]) (ys := E) hvr2.nd fun y hy => by
          rcases List.mem_append.1 hy with hy | hy
          · have hok := HR.out.vr.okd y hy
            obtain ⟨D, left, cnt, g1, g2, g3, g4⟩ := HR.out.vr.rg
            have := ((g4 y hok).2.1 hy).1
            rw [HM.out y hok] at this
            by_cases q : y ∈ E
            · exact q
            · rw [if_neg q] at this; simp at this
          · have : y = (x1, x2) := by simpa using hy
            rw [this]; exact hxE
        simpa using h1
      have hne := HR.out.vr.own_ne HR.out.row
      have row2 : DRow w2 (.slice A d.length c) d := own_chg HR.out.row hc2 (fun j hj e => hne (by rw [hj, e]))
      have HROW : Hid (∀ W, Below w2.heap.size w2 W → DRow W (.slice A d.length c) d) := fun W hW => own_chg row2 (Chg.of_below hW) (fun j hj => by have := own_lt row2 hj; omega)
      have HNE : Hid (∀ W (g c' : Nat) w5, Below w2.heap.size w2 W → w5.ownsRow 0 93 2 (.slice (some ⟨g, 0, none⟩) (d.length + 1) c') (d.length + 1) (rowsOf edC d ++ [.int .i64 x1, .int .i64 x2]) → Chg (fun j => (Value.slice A d.length c).ownBlock = some j) W w5 → ((Value.slice A d.length c).ownBlock = some g ∨ g = W.heap.size) → EgR w F.eb w.heap.size N E.length me (d ++ [(x1, x2)]) (.slice (some ⟨g, 0, none⟩) (d.length + 1) c') w5 ∧ w5.rangeLeft F.eb w.heap.size < wr.rangeLeft F.eb w.heap.size) := by
        intro W g c' w5 hW ho hc hat
        have nb := HR.out.vr.vm.own_ne HR.out.row
        have hvrW : VR kE W F.eb w.heap.size N E.length me (d ++ [(x1, x2)]) := hvr2.kept (Chg.of_below hW) (by have := hvr2.vm.lt; omega) (by have := hvr2.lt; omega)
        have hvr5 : VR kE w5 F.eb w.heap.size N E.length me (d ++ [(x1, x2)]) := hvrW.kept hc nb hne
        refine ⟨⟨hvr5, ?_, ?_, ?_, HR.out.hr, by simp; omega⟩, ?_⟩
        · unfold DRow
          rw [List.length_append, rowsOf_app, rowsOf_one]
          exact ho
        · have b2 : Below w.heap.size w w2 := ((Chg.of_below HR.out.bel).trans hc2 (fun i hi e => by omega)).below (Nat.le_refl _) (fun _ _ h => h)
          have bW : Below w.heap.size w W := b2.trans (Below.mono hW b2.size)
          exact ((Chg.of_below bW).trans hc (fun i hi hs => HR.out.new i hs)).below (Nat.le_refl _) (fun _ _ h => h)
        · intro j hj
          have : g = j := by simpa [Value.ownBlock] using hj
          subst this
          rcases hat with hat | hat
          · exact HR.out.new _ hat
          · have := HR.out.bel.size; have := hW.size; omega
        · obtain ⟨D, left, cnt, g1, g2, g3, g4⟩ := hvr5.rg
          obtain ⟨D', left', cnt', g1', g2', g3', g4'⟩ := hvr2.rg
          have e1 : w5.rangeLeft F.eb w.heap.size = w2.rangeLeft F.eb w.heap.size := by
            have hl1 := hvr2.vm.lt
            have hl2 := hvr2.lt
            unfold World.rangeLeft
            rw [hc.block _ (Nat.lt_of_lt_of_le hl1 hW.size) nb, hc.block _ (Nat.lt_of_lt_of_le hl2 hW.size) hne, hW.block _ hl1, hW.block _ hl2]
          rw [e1]; exact hlt
      clear hvr2 hlt hc2 row2 hne hmx hxd hox hxE
      go_wp2_with (at_builtin; refine wpList_pushS _ rfl (.tmp 14) (.tmp 16) 31 rfl 93 _ 2 16 Tryz.underlying31 infoEdge rfl (by decide) (.slice A d.length c) d.length (rowsOf edC d) rfl (HROW.out _ (((Below.refl _ _).alloc (Nat.le_refl _) _).alloc (by simp) _)) ⟨by omega, by omega⟩ [.int .i64 x1, .int .i64 x2] (wr.heap.size + 1) rfl rfl (news_cells (by simp [hsz2]) _ _) (by simp [Value.oneCell']) ?_; intro g5 c5 w5 ho5 hc5 hat5 _; have HA := Lib.hid (HNE.out _ g5 c5 w5 (((Below.refl _ _).alloc (Nat.le_refl _) _).alloc (by simp) _) ho5 hc5 hat5); clear ho5 hc5 hat5)
      go_roundw
      case rel => exact ⟨d ++ [(x1, x2)], some ⟨g5, 0, none⟩, c5, by simp, by unfold Hid; have := HA.out.1; simpa using this⟩
      case measure => exact HA.out.2
end
end Go.Proofs.YtgdbnjcnilnnmaaGreatDoor
