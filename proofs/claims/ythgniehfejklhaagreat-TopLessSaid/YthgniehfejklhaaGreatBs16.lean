/-
  Walks of tour's Rising and Edges. Conditions: the edges' nodes are below 60; the forest lies in memory as 'FoAt' says.
  Walk of tour's New. No conditions.
-/
import Derived.Test.YthgniehfejklhaaGreatBs14
import Derived.Test.YthgniehfejklhaaGreatBs15
import Derived.Test.YthgniehfejklhaaGreatBs6
namespace Go.Proofs.YthgniehfejklhaaGreat
open Go Go.RowKit SQ TR DF PD
set_option linter.unusedVariables false

theorem rising_any (w : World) (v : Value) (A : Option Addr) (c : Nat) (l : List AK.Ed) (hv : v = .slice A l.length c) (hf : ∀ x ∈ l, 0 ≤ x.1 ∧ x.1 < 60 ∧ 0 ≤ x.2 ∧ x.2 < 60) (hn : l.length ≤ 100000) (h : DRow w v l) :
    Calls Tryz.prog 80 #[v] w fun e w' => e = .returned v ∧ DRow w' v (sortedE l) ∧ Chg (fun k => v.ownBlock = some k) w w' := by
  have HS := Lib.hid (sortE_any w v l hf hn h)
  subst hv
  clear h hf
  go_enter Tryz.func80, Tryz.ntmps80
  go_wp2_with fail
  refine HS.out.mono ?_
  rintro e w1 ⟨rfl, h1, h2⟩
  have H1 := Lib.hid h1
  have H2 := Lib.hid h2
  clear h1 h2
  go_wp2
  go_ret
  exact ⟨rfl, H1.out, H2.out⟩
theorem sorted_is {n : Nat} {d E : List AK.Ed} (hn : n ≤ 60) (hok : ∀ x ∈ E, 0 ≤ x.1 ∧ x.1 < x.2 ∧ x.2 < (n : Int)) (hup : E.Pairwise ltE) (hd : d.Nodup) (hm : ∀ x, x ∈ d ↔ x ∈ E) : sortedE d = E := by
  have h2 : (sortedE d).Nodup := sortedE_nodup hd
  refine rises_ext (((sortedE_rises d).and h2).imp_of_mem fun {x y} hx hy h => ?_) hup fun x => by rw [sortedE_mem, hm]
  have a1 := hok x ((hm x).1 (sortedE_mem.1 hx))
  have a2 := hok y ((hm y).1 (sortedE_mem.1 hy))
  obtain ⟨h1, hne⟩ := h
  obtain ⟨x1, x2⟩ := x
  obtain ⟨y1, y2⟩ := y
  simp only at *
  unfold ltE
  simp only
  have : ¬ (x1 = y1 ∧ x2 = y2) := fun w => hne (by rw [w.1, w.2])
  omega
/-- A row of edges of one's own that grows while a map is ranged over. -/
theorem VR.own_ne {α : Type} {k : KK α} {w : World} {b r N s : Nat} {m : α → Option Value} {d : List α} (hm : VR k w b r N s m d) {base : Nat} {e : TypeId} {size : Nat} {v : Value} {n : Nat} {xs : List Value} (h : w.ownsRow base e size v n xs) : v.ownBlock ≠ some r := by
  rcases h.2 with ⟨rfl, _⟩ | ⟨g, cap, cur, rfl, _, hh, _⟩
  · simp [Value.ownBlock]
  · intro he
    have : g = r := by simpa [Value.ownBlock] using he
    subst this
    obtain ⟨D, left, cnt, h1, _⟩ := hm.rg
    obtain ⟨es, clock, since, seen, c0, q1, q2, q3, q4, q5, q6⟩ := h1
    rw [hh] at q5
    cases q5
structure EgR (w : World) (b r N s : Nat) (m : AK.Ed → Option Value) (d : List AK.Ed) (v : Value) (wr : World) : Prop where
  vr : VR kE wr b r N s m d
  row : DRow wr v d
  bel : Below w.heap.size w wr
  new : ∀ j, v.ownBlock = some j → w.heap.size ≤ j
  hr : w.heap.size ≤ r
  hd : d.length ≤ s
def EdgesPost (w : World) (E : List AK.Ed) (e : Ending) (w' : World) : Prop := ∃ A c, e = .returned (.slice A E.length c) ∧ DRow w' (.slice A E.length c) E ∧ Ext w w' ∧ ∀ j, (Value.slice A E.length c).ownBlock = some j → w.heap.size ≤ j
theorem nodup_le_mem {d E : List AK.Ed} (hd : d.Nodup) (h : ∀ x ∈ d, x ∈ E) : d.length ≤ E.length := nodup_le hd h
section
variable {w : World} {F : FoP} {n N : Nat} {E : List AK.Ed}
set_option maxRecDepth 100000 in
set_option maxHeartbeats 2000000 in
theorem tedges_any (h : FoAt w F n N E) : Calls Tryz.prog 42 #[.pointer (some ⟨F.fb, 0, none⟩)] w (EdgesPost w E) := by
  have c2 : w.cell? ⟨F.fb, 2, none⟩ = some (.map (some F.eb)) := h.blk.cell 2
  have h60 := h.hn
  have hfo := Lib.hid h.fo
  obtain ⟨me, k1, k2⟩ := h.edges
  have HM := Lib.hid k2
  have hlen : E.length ≤ n := h.fo.len
  have hebl := k1.lt
  obtain ⟨w1, hrg, hvr, hb1, hs1⟩ := k1.range Tryz.underlying137
  have hrg : (Instr.range 137 (.map (some F.eb))).run Tryz.prog w = .ok (.pointer (some ⟨w.heap.size, 0, none⟩)) w1 := hrg
  have HV := Lib.hid hvr
  have HB := Lib.hid hb1
  clear h k1 k2 hvr hb1
  go_enter Tryz.func42, Tryz.ntmps42
  go_wp2
  go_loopw [3] (fun v wr => ∃ (d : List AK.Ed) (A : Option Addr) (c : Nat), v = .slice A d.length c ∧ Hid (EgR w F.eb w.heap.size N E.length me d (.slice A d.length c) wr)) (fun _ wr => wr.rangeLeft F.eb w.heap.size)
  case atStart => exact ⟨[], none, 0, rfl, HV.out, World.ownsRow_nil _ _ _ _, HB.out, fun j hj => by simp [Value.ownBlock] at hj, Nat.le_refl _, by simp⟩
  case round =>
    obtain ⟨d, A, c, rfl, HR⟩ := hrel
    rcases HR.out.vr.next 0 with ⟨hnx, hall⟩ | ⟨x, v, w2, hox, hxd, hmx, hnx0, hvr2, hlt, hc2, hsz2, hen0⟩
    · have HALL := Lib.hid hall
      have hE : Hid (sortedE d = E) := by
        refine sorted_is h60.2 hfo.out.ok hfo.out.up HR.out.vr.nd fun x => ?_
        constructor
        · intro hx
          have hok := HR.out.vr.okd x hx
          have := (HALL.out x hok).1 hx
          rw [HM.out x hok] at this
          by_cases q : x ∈ E
          · exact q
          · rw [if_neg q] at this; simp at this
        · intro hx
          have h3 := hfo.out.ok x hx
          have hok : kE.ok x := okE_of (by omega) (by omega)
          refine (HALL.out x hok).2 ?_
          rw [HM.out x hok, if_pos hx]; rfl
      have hdl : d.length = E.length := by rw [← hE.out, sortedE_length]
      have hf : ∀ x ∈ d, 0 ≤ x.1 ∧ x.1 < 60 ∧ 0 ≤ x.2 ∧ x.2 < 60 := fun x hx => by
        have := hfo.out.ok x (by rw [← hE.out, sortedE_mem]; exact hx); omega
      have RS := Lib.hid (rising_any wr _ A c d rfl hf (by omega) HR.out.row)
      have HDL := Lib.hid hdl
      clear hall hf hdl
      go_wp2_with fail
      refine RS.out.mono ?_
      rintro e w3 ⟨rfl, h1, h3⟩
      have H1 := Lib.hid h1
      have H3 := Lib.hid h3
      clear h1 h3
      go_wp2
      go_ret
      have q1 := H1.out
      have hdl := HDL.out
      rw [hE.out] at q1
      rw [hdl] at q1 ⊢
      refine ⟨A, c, rfl, q1, ((Chg.of_below HR.out.bel).trans H3.out (fun i hi hs => HR.out.new i hs)).below (Nat.le_refl _) (fun _ _ h => h), fun j hj => HR.out.new j (by rw [hdl]; exact hj)⟩
    · have hxE : x ∈ E := by
        rw [HM.out x hox] at hmx
        by_cases q : x ∈ E
        · exact q
        · rw [if_neg q] at hmx; cases hmx
      obtain ⟨x1, x2⟩ := x
      have hv1 : v = .int .i64 1 := by
        rw [HM.out _ hox, if_pos hxE] at hmx; exact (Option.some.inj hmx).symm
      subst hv1
      have hnx : (Instr.next (.pointer (some ⟨w.heap.size, 0, none⟩)) false 0).run Tryz.prog wr = .ok (.tuple #[.bool true, .agg #[.int .i64 x1, .int .i64 x2], .int .i64 1]) w2 := hnx0
      have hen : (Instr.entry (.pointer (some ⟨w.heap.size, 0, none⟩))).run Tryz.prog w2 = .ok (.tuple #[.agg #[.int .i64 x1, .int .i64 x2], .int .i64 1]) w2 := hen0
      clear hnx0 hen0
      have hdE : d.length + 1 ≤ E.length := by
        have h1 := nodup_le (xs := d ++ [(x1, x2)]) (ys := E) hvr2.nd fun y hy => by
          rcases List.mem_append.1 hy with hy | hy
          · have hok := HR.out.vr.okd y hy
            obtain ⟨D, left, cnt, g1, g2, g3, g4⟩ := HR.out.vr.rg
            have := ((g4 y hok).2.1 hy).1
            rw [HM.out y hok] at this
            by_cases q : y ∈ E
            · exact q
            · rw [if_neg q] at this; simp at this
          · have : y = (x1, x2) := by simpa using hy
            rw [this]; exact hxE
        simpa using h1
      have hne := HR.out.vr.own_ne HR.out.row
      have row2 : DRow w2 (.slice A d.length c) d := own_chg HR.out.row hc2 (fun j hj e => hne (by rw [hj, e]))
      have HROW : Hid (∀ W, Below w2.heap.size w2 W → DRow W (.slice A d.length c) d) := fun W hW => own_chg row2 (Chg.of_below hW) (fun j hj => by have := own_lt row2 hj; omega)
      have HNE : Hid (∀ W (g c' : Nat) w5, Below w2.heap.size w2 W → w5.ownsRow 0 49 2 (.slice (some ⟨g, 0, none⟩) (d.length + 1) c') (d.length + 1) (rowsOf edC d ++ [.int .i64 x1, .int .i64 x2]) → Chg (fun j => (Value.slice A d.length c).ownBlock = some j) W w5 → ((Value.slice A d.length c).ownBlock = some g ∨ g = W.heap.size) → EgR w F.eb w.heap.size N E.length me (d ++ [(x1, x2)]) (.slice (some ⟨g, 0, none⟩) (d.length + 1) c') w5 ∧ w5.rangeLeft F.eb w.heap.size < wr.rangeLeft F.eb w.heap.size) := by
        intro W g c' w5 hW ho hc hat
        have nb := HR.out.vr.vm.own_ne HR.out.row
        have hvrW : VR kE W F.eb w.heap.size N E.length me (d ++ [(x1, x2)]) := hvr2.kept (Chg.of_below hW) (by have := hvr2.vm.lt; omega) (by have := hvr2.lt; omega)
        have hvr5 : VR kE w5 F.eb w.heap.size N E.length me (d ++ [(x1, x2)]) := hvrW.kept hc nb hne
        refine ⟨⟨hvr5, ?_, ?_, ?_, HR.out.hr, by simp; omega⟩, ?_⟩
        · unfold DRow
          rw [List.length_append, rowsOf_app, rowsOf_one]
          exact ho
        · have b2 : Below w.heap.size w w2 := ((Chg.of_below HR.out.bel).trans hc2 (fun i hi e => by omega)).below (Nat.le_refl _) (fun _ _ h => h)
          have bW : Below w.heap.size w W := b2.trans (Below.mono hW b2.size)
          exact ((Chg.of_below bW).trans hc (fun i hi hs => HR.out.new i hs)).below (Nat.le_refl _) (fun _ _ h => h)
        · intro j hj
          have : g = j := by simpa [Value.ownBlock] using hj
          subst this
          rcases hat with hat | hat
          · exact HR.out.new _ hat
          · have := HR.out.bel.size; have := hW.size; omega
        · obtain ⟨D, left, cnt, g1, g2, g3, g4⟩ := hvr5.rg
          obtain ⟨D', left', cnt', g1', g2', g3', g4'⟩ := hvr2.rg
          have e1 : w5.rangeLeft F.eb w.heap.size = w2.rangeLeft F.eb w.heap.size := by
            have hl1 := hvr2.vm.lt
            have hl2 := hvr2.lt
            unfold World.rangeLeft
            rw [hc.block _ (Nat.lt_of_lt_of_le hl1 hW.size) nb, hc.block _ (Nat.lt_of_lt_of_le hl2 hW.size) hne, hW.block _ hl1, hW.block _ hl2]
          rw [e1]; exact hlt
      clear hvr2 hlt hc2 row2 hne hmx hxd hox hxE
      go_wp2_with (at_builtin; refine wpList_pushS _ rfl (.tmp 14) (.tmp 16) 28 rfl 49 _ 2 16 Tryz.underlying28 infoEdge rfl (by decide) (.slice A d.length c) d.length (rowsOf edC d) rfl (HROW.out _ (((Below.refl _ _).alloc (Nat.le_refl _) _).alloc (by simp) _)) ⟨by omega, by omega⟩ [.int .i64 x1, .int .i64 x2] (wr.heap.size + 1) rfl rfl (news_cells (by simp [hsz2]) _ _) (by simp [Value.oneCell']) ?_; intro g5 c5 w5 ho5 hc5 hat5 _; have HA := Lib.hid (HNE.out _ g5 c5 w5 (((Below.refl _ _).alloc (Nat.le_refl _) _).alloc (by simp) _) ho5 hc5 hat5); clear ho5 hc5 hat5)
      go_roundw
      case rel => exact ⟨d ++ [(x1, x2)], some ⟨g5, 0, none⟩, c5, by simp, by unfold Hid; have := HA.out.1; simpa using this⟩
      case measure => exact HA.out.2
end
end Go.Proofs.YthgniehfejklhaaGreat
namespace Go.Proofs.YthgniehfejklhaaGreat
open Go Go.RowKit SQ TR DF PD
set_option linter.unusedVariables false

set_option maxHeartbeats 1000000 in
theorem tnew_no (w : World) (n : Int) (h : n < 1 ∨ 60 < n) : Calls Tryz.prog 35 #[.int .i64 n] w fun e w' => e = .returned (.tuple #[.pointer none, errV 1]) ∧ w = w' := by
  by_cases h1 : n < 1
  · clear h
    go_enter Tryz.func35, Tryz.ntmps35
    go_wp2
    go_ret2
    exact ⟨rfl, rfl⟩
  · have h2 : 60 < n := by omega
    clear h
    go_enter Tryz.func35, Tryz.ntmps35
    go_wp2
    go_ret2
    exact ⟨rfl, rfl⟩
/-- New of the first k nodes. -/
structure NwAt (w wr : World) (fb mb eb n k : Nat) (v : Value) : Prop where
  blk : Blk wr fb 139 #[.map (some mb), v, .map (some eb)]
  row : wr.ownsRow 0 3 1 v k (intsV ((List.range k).map fun (x : Nat) => (x : Int)))
  ways : ∃ s m, VM kI wr mb k s m ∧ ∀ r : Nat, r < k → ∃ q, m r = some (.pointer q) ∧ RowAt wr q [(r : Int)]
  edges : VM kE wr eb 0 0 (fun _ => none)
  bel : Below w.heap.size w wr
  new : ∀ j, v.ownBlock = some j → w.heap.size ≤ j
  nn : w.heap.size ≤ fb ∧ w.heap.size ≤ mb ∧ w.heap.size ≤ eb ∧ mb ≠ eb
theorem range_snoc (k : Nat) : (List.range (k + 1)).map (fun (x : Nat) => (x : Int)) = (List.range k).map (fun (x : Nat) => (x : Int)) ++ [(k : Int)] := by rw [List.range_succ, List.map_append]; rfl
/-- A number more behind the roots; the slice is stored. -/
structure NwMid (w wr : World) (fb mb eb n k : Nat) (v : Value) : Prop where
  blk : Blk wr fb 139 #[.map (some mb), v, .map (some eb)]
  row : wr.ownsRow 0 3 1 v (k + 1) (intsV ((List.range (k + 1)).map fun (x : Nat) => (x : Int)))
  ways : ∃ s m, VM kI wr mb k s m ∧ ∀ r : Nat, r < k → ∃ q, m r = some (.pointer q) ∧ RowAt wr q [(r : Int)]
  edges : VM kE wr eb 0 0 (fun _ => none)
  bel : Below w.heap.size w wr
  new : ∀ j, v.ownBlock = some j → w.heap.size ≤ j
  nn : w.heap.size ≤ fb ∧ w.heap.size ≤ mb ∧ w.heap.size ≤ eb ∧ mb ≠ eb
theorem NwAt.push {w wr w5 : World} {fb mb eb n k g c : Nat} {v : Value} {o : Obj} (h : NwAt w wr fb mb eb n k v) (ho : w5.ownsRow 0 3 1 (.slice (some ⟨g, 0, none⟩) (k + 1) c) (k + 1) (intsV ((List.range k).map fun (x : Nat) => (x : Int)) ++ [.int .i64 k]))
    (hc : Chg (fun j => v.ownBlock = some j) (wr.alloc o) w5) (hat : v.ownBlock = some g ∨ g = (wr.alloc o).heap.size) :
    Blk w5 fb 139 #[.map (some mb), v, .map (some eb)] ∧ NwMid w (w5.setCell ⟨fb, 1, none⟩ (.slice (some ⟨g, 0, none⟩) (k + 1) c)) fb mb eb n k (.slice (some ⟨g, 0, none⟩) (k + 1) c) := by
  obtain ⟨s, m, h1, h2⟩ := h.ways
  have nfb := own_ne h.row h.blk (by decide)
  have nmb := h1.own_ne h.row
  have neb := h.edges.own_ne h.row
  have hfm : fb ≠ mb := h1.blk_ne h.blk
  have hfe : fb ≠ eb := h.edges.blk_ne h.blk
  have hb5 : Blk w5 fb 139 #[.map (some mb), v, .map (some eb)] := (h.blk.alloc o).chg hc nfb
  have hgf : g ≠ fb := by
    rintro rfl
    rcases hat with hat | hat
    · exact nfb hat
    · have := h.blk.lt; simp at hat; omega
  have hal : Chg (fun _ => False) wr (wr.alloc o) := (Chg.refl _ _).alloc o
  refine ⟨hb5, ⟨hb5.set_ 1 _, ?_, ⟨s, m, (((h1.chg hal (fun x => x)).chg hc nmb).chg (chg_at _ _ _ _) (fun e => hfm e.symm)), fun r hr => ?_⟩, ((h.edges.chg hal (fun x => x)).chg hc neb).chg (chg_at _ _ _ _) (fun e => hfe e.symm), ?_, ?_, h.nn⟩⟩
  · rw [range_snoc]
    have : intsV ((List.range k).map (fun (x : Nat) => (x : Int)) ++ [(k : Int)]) = intsV ((List.range k).map fun (x : Nat) => (x : Int)) ++ [.int .i64 k] := by simp [intsV]
    rw [this]
    exact own_chg ho (chg_at w5 fb 1 _) (fun j hj e => by
      have : g = j := by simpa [Value.ownBlock] using hj
      exact hgf (this.trans e))
  · obtain ⟨q, q1, q2⟩ := h2 r hr
    refine ⟨q, q1, ((q2.chg hal (fun _ h => absurd h (fun x => x))).chg hc (fun j hj cs hb => ?_)).chg (chg_at w5 fb 1 _) (fun j hj cs hb => ?_)⟩
    · rcases h.row.2 with ⟨rfl, _⟩ | ⟨g', cap, cur, rfl, _, hh, _⟩
      · simp [Value.ownBlock] at hj
      · have e : g' = j := by simpa [Value.ownBlock] using hj
        subst e
        exact Blk.ne_ (t := 3) (Blk.alloc hh o) hb (by decide) rfl
    · subst hj; exact Blk.ne_ hb5 hb (by decide) rfl
  · exact (((Chg.of_below (h.bel.alloc h.bel.size o)).trans hc (fun i hi hs => h.new i hs)).setCell (p := ⟨fb, 1, none⟩) (fun _ => h.nn.1) _).below (Nat.le_refl _) (fun _ _ h => h)
  · intro j hj
    have : g = j := by simpa [Value.ownBlock] using hj
    subst this
    rcases hat with hat | hat
    · exact h.new _ hat
    · have := h.bel.size; simp at hat; omega
theorem NwMid.next {w wr w8 : World} {fb mb eb n k : Nat} {v : Value} {q : Option Addr} (h : NwMid w wr fb mb eb n k v) (hx : Ext wr w8) (hq : RowAt w8 q [(k : Int)]) (hk : k < 60) :
    Blk w8 fb 139 #[.map (some mb), v, .map (some eb)] ∧ ∃ w9, (Instr.mapUpdate 136 (.map (some mb)) (.int .i64 k) (.pointer q)).run Tryz.prog w8 = .ok () w9 ∧ NwAt w w9 fb mb eb n (k + 1) v := by
  obtain ⟨s, m, h1, h2⟩ := h.ways
  have hb8 : Blk w8 fb 139 #[.map (some mb), v, .map (some eb)] := h.blk.chg (Chg.of_below hx) (by have := h.blk.lt; omega)
  have hv8 := h1.ext hx
  have hfm : fb ≠ mb := h1.blk_ne h.blk
  obtain ⟨w9, hr, hv9, hc9, hs9⟩ := hv8.put Tryz.underlying136 (by omega) (k : Int) (WalkArith.wf_i64 (by omega)) (.pointer q)
  have row8 := own_chg h.row (Chg.of_below hx) (fun j hj => by have := own_lt h.row hj; omega)
  have nmb := hv8.own_ne row8
  have noseq : ∀ j, j = mb → ∀ cs, ¬ Blk w8 j 193 cs := fun j hj cs hb => by subst hj; exact hv8.blk_ne hb rfl
  refine ⟨hb8, w9, hr, ⟨hb8.chg hc9 hfm, own_chg row8 hc9 (fun j hj e => nmb (by rw [hj, e])), ⟨_, _, hv9, fun r hr => ?_⟩, (h.edges.ext hx).chg hc9 (fun e => h.nn.2.2.2 e.symm), ?_, h.new, h.nn⟩⟩
  · by_cases e : r = k
    · subst e
      exact ⟨q, by simp [updV], hq.chg hc9 noseq⟩
    · obtain ⟨q', q1, q2⟩ := h2 r (by omega)
      exact ⟨q', by rw [updV, if_neg (by omega)]; exact q1, (q2.ext hx).chg hc9 noseq⟩
  · have b8 : Below w.heap.size w w8 := h.bel.trans (Below.mono hx h.bel.size)
    exact ((Chg.of_below b8).trans hc9 (fun i hi e => by have := h.nn; omega)).below (Nat.le_refl _) (fun _ _ h => h)
def NewPost (w : World) (n : Nat) (e : Ending) (w' : World) : Prop := ∃ F : FoP, e = .returned (.tuple #[.pointer (some ⟨F.fb, 0, none⟩), .nilIface]) ∧ FoAt w' F n n [] ∧ Ext w w' ∧ w.heap.size ≤ F.fb ∧ ∀ k, F.S k → w.heap.size ≤ k
theorem NwAt.post {w wr : World} {fb mb eb n : Nat} {v : Value} (h : NwAt w wr fb mb eb n n v) (hn : 1 ≤ n ∧ n ≤ 60) : ∃ F : FoP, F.fb = fb ∧ FoAt wr F n n [] ∧ Ext w wr ∧ w.heap.size ≤ F.fb ∧ ∀ k, F.S k → w.heap.size ≤ k := by
  obtain ⟨g, c, rfl, hc, _⟩ := own_form h.row hn.1
  have h0 : ∀ u v, ¬ adj [] u v := fun u v e => by simp [adj] at e
  have one : ∀ {x y}, Cn (adj []) x y → x = y := fun c => c.into (R := fun x y => x = y) (fun _ => rfl) (fun u v e => absurd e (h0 u v)) (fun _ _ h => h.symm) (fun _ _ _ h k => h.trans k)
  have gk : ∀ v, v < n → PD.g ((List.range n).map fun (x : Nat) => (x : Int)) v = (v : Int) := fun v hv => by simp [PD.g, List.getD_eq_getElem?_getD, hv]
  refine ⟨⟨fb, mb, g, eb, c⟩, rfl, ⟨h.blk, hn, Fo.nil n, h.nn.2.2.2, ⟨(List.range n).map fun (x : Nat) => (x : Int), ?_⟩, ⟨fun _ => none, h.edges.mono (Nat.zero_le _), fun x _ => by simp⟩⟩, h.bel, h.nn.1, ?_⟩
  · obtain ⟨s, m, h1, h2⟩ := h.ways
    refine ⟨s, m, ⟨by simp, fun v hv => ⟨v, gk v hv, Nat.le_refl _, .refl _⟩, fun u v e => absurd e (h0 u v)⟩, h.row, h1, fun r hr _ => ?_⟩
    obtain ⟨q, q1, q2⟩ := h2 r hr
    exact ⟨q, [(r : Int)], q1, q2, TR.Way.one (by omega) (fun x => h0 r x) (fun x y e => adj_symm e)⟩
  · rintro k (rfl | rfl | rfl)
    · exact h.nn.2.1
    · exact h.new _ (by simp [Value.ownBlock])
    · exact h.nn.2.2.1
set_option maxRecDepth 100000 in
set_option maxHeartbeats 1000000 in
theorem tnew_ok (w : World) (n : Nat) (hn : 1 ≤ n ∧ n ≤ 60) : Calls Tryz.prog 35 #[.int .i64 n] w (NewPost w n) := by
  have hmm := @run_makeMap Tryz.prog
  have z1 : ¬ (n : Int) < 1 := by omega
  have z2 : ¬ (60 : Int) < (n : Int) := by omega
  go_enter Tryz.func35, Tryz.ntmps35
  go_wp2
  go_loopw [20] (fun v20 wr => ∃ (k : Nat) (v : Value), k ≤ n ∧ v20 = .int .i64 k ∧ Hid (NwAt w wr (w.heap.size + 2) w.heap.size (w.heap.size + 1) n k v)) (fun v20 _ => n - (intOf v20).toNat)
  case atStart =>
    refine ⟨0, .slice none 0 0, by omega, rfl, ?_, World.ownsRow_nil _ _ _ _, ⟨0, fun _ => none, ?_, fun r hr => by omega⟩, ?_, ?_, fun j hj => by simp [Value.ownBlock] at hj, by omega⟩
    · have := Blk.new ((w.alloc (.map #[] 0)).alloc (.map #[] 0)) 139 #[.map (some w.heap.size), .slice none 0 0, .map (some (w.heap.size + 1))]
      simpa using this
    · exact ((VM.made kI w).ext ((Below.refl _ _).alloc (Nat.le_refl _) _)).ext ((Below.refl _ _).alloc (Nat.le_refl _) _)
    · have := (VM.made kE (w.alloc (.map #[] 0))).ext ((Below.refl _ _).alloc (Nat.le_refl _) (.cells #[.map (some w.heap.size), .slice none 0 0, .map (some (w.heap.size + 1))] 139))
      simpa using this
    · exact (((Below.refl _ _).alloc (Nat.le_refl _) _).alloc (by simp) _).alloc (by simp; omega) _
  case round =>
    obtain ⟨k, v, hk, rfl, HR⟩ := hrel
    have d0 : wr.cell? ⟨w.heap.size + 2, 0, none⟩ = some (.map (some w.heap.size)) := HR.out.blk.cell 0
    have d1 : wr.cell? ⟨w.heap.size + 2, 1, none⟩ = some v := HR.out.blk.cell 1
    by_cases hlt : k < n
    · obtain ⟨A, c, hv, _⟩ := own_slice' HR.out.row
      subst hv
      have z0 : (k : Int) < (n : Int) := by omega
      have hbl := HR.out.blk.lt
      have g1 : ∀ o, (wr.alloc o).cell? ⟨w.heap.size + 2, 1, none⟩ = some (.slice A k c) := fun o => (HR.out.blk.alloc o).cell 1
      go_wp2_with (at_builtin; refine wpList_push _ rfl (.tmp 27) (.tmp 29) 23 rfl 3 (.int .i64 0) 8 Tryz.underlying23 infoI rfl (.slice A k c) k (intsV ((List.range k).map fun (x : Nat) => (x : Int))) rfl (own_chg HR.out.row ((Chg.refl (fun _ => False) _).alloc _) (fun _ _ h => h)) ⟨by omega, by omega⟩ (.int .i64 k) wr.heap.size rfl (cell_new1 rfl _ _) rfl ?_; intro g5 c5 w5 ho5 hc5 hat5 _; have HP := Lib.hid (HR.out.push ho5 hc5 hat5); have q1 : w5.cell? ⟨w.heap.size + 2, 1, none⟩ = some (.slice A k c) := HP.out.1.cell 1; have q2 : w5.frozen? ⟨w.heap.size + 2, 1, none⟩ = false := HP.out.1.frozen 1; clear ho5 hc5 hat5)
      have HM := Lib.hid HP.out.2
      clear HP q1 q2
      generalize hw6 : w5.setCell ⟨w.heap.size + 2, 1, none⟩ (.slice (some ⟨g5, 0, none⟩) (k + 1) c5) = w6 at HM ⊢
      have h6 : w5.heap.size = w6.heap.size := by rw [← hw6]; simp [World.setCell]
      clear hw6
      rw [h6]
      clear h6
      refine (row_of (n := 1) (c := 1) (ints_one _ _ _) rfl (by omega)).mono ?_
      rintro e w8 ⟨q, rfl, s8, x8⟩
      have X8 : Hid (Ext w6 w8) := (Ext.alloc w6 _).trans x8
      have HN := Lib.hid (HM.out.next X8.out s8 (by omega))
      have f0 : w8.cell? ⟨w.heap.size + 2, 0, none⟩ = some (.map (some w.heap.size)) := HN.out.1.cell 0
      obtain ⟨w9, hput, hnw⟩ := HN.out.2
      have HW := Lib.hid hnw
      clear s8 x8 hnw HN d0 d1 g1
      go_wp2
      go_roundw
      case rel => exact ⟨k + 1, _, by omega, by go_num, HW⟩
      case measure => simp [intOf]; omega
    · obtain rfl : k = n := by omega
      go_wp2
      go_ret2
      obtain ⟨F, hF, a1, a2, a3, a4⟩ := HR.out.post hn
      exact ⟨F, congrArg (fun z => Ending.returned (.tuple #[.pointer (some ⟨z, 0, none⟩), .nilIface])) hF.symm, a1, a2, a3, a4⟩
end Go.Proofs.YthgniehfejklhaaGreat
