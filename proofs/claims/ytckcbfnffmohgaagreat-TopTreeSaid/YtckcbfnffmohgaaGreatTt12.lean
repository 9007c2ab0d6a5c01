/-
  Walks of tour's Rising and Edges. Conditions: the edges' nodes are below 60; the forest lies in memory as 'FoAt' says.
  Walk of tour's New. No conditions.
-/
import Derived.Test.YtckcbfnffmohgaaGreatTt10
import Derived.Test.YtckcbfnffmohgaaGreatTt11
import Derived.Test.YtckcbfnffmohgaaGreatTt5
namespace Go.Proofs.YtckcbfnffmohgaaGreat
open Go Go.RowKit SQ TR DF PD
set_option linter.unusedVariables false

theorem rising_any (w : World) (v : Value) (A : Option Addr) (c : Nat) (l : List AK.Ed) (hv : v = .slice A l.length c) (hf : ∀ x ∈ l, 0 ≤ x.1 ∧ x.1 < 60 ∧ 0 ≤ x.2 ∧ x.2 < 60) (hn : l.length ≤ 100000) (h : DRow w v l) :
    Calls Tryz.prog 59 #[v] w fun e w' => e = .returned v ∧ DRow w' v (sortedE l) ∧ Chg (fun k => v.ownBlock = some k) w w' := by
  have HS := Lib.hid (sortE_any w v l hf hn h)
  subst hv
  clear h hf
  go_enter Tryz.func59, Tryz.ntmps59
  go_wp2_with fail
  refine HS.out.mono ?_
  rintro e w1 ⟨rfl, h1, h2⟩
  have H1 := Lib.hid h1
  have H2 := Lib.hid h2
  clear h1 h2
  go_wp2
  go_ret
  exact ⟨rfl, H1.out, H2.out⟩
theorem sorted_is {n : Nat} {d E : List AK.Ed} (hn : n ≤ 60) (hok : ∀ x ∈ E, 0 ≤ x.1 ∧ x.1 < x.2 ∧ x.2 < (n : Int)) (hup : E.Pairwise ltE) (hd : d.Nodup) (hm : ∀ x, x ∈ d ↔ x ∈ E) : sortedE d = E := by
  have h2 : (sortedE d).Nodup := sortedE_nodup hd
  refine rises_ext (((sortedE_rises d).and h2).imp_of_mem fun {x y} hx hy h => ?_) hup fun x => by rw [sortedE_mem, hm]
  have a1 := hok x ((hm x).1 (sortedE_mem.1 hx))
  have a2 := hok y ((hm y).1 (sortedE_mem.1 hy))
  obtain ⟨h1, hne⟩ := h
  obtain ⟨x1, x2⟩ := x
  obtain ⟨y1, y2⟩ := y
  simp only at *
  unfold ltE
  simp only
  have : ¬ (x1 = y1 ∧ x2 = y2) := fun w => hne (by rw [w.1, w.2])
  omega
/-- A row of edges of one's own that grows while a map is ranged over. -/
theorem VR.own_ne {α : Type} {k : KK α} {w : World} {b r N s : Nat} {m : α → Option Value} {d : List α} (hm : VR k w b r N s m d) {base : Nat} {e : TypeId} {size : Nat} {v : Value} {n : Nat} {xs : List Value} (h : w.ownsRow base e size v n xs) : v.ownBlock ≠ some r := by
  rcases h.2 with ⟨rfl, _⟩ | ⟨g, cap, cur, rfl, _, hh, _⟩
  · simp [Value.ownBlock]
  · intro he
    have : g = r := by simpa [Value.ownBlock] using he
    subst this
    obtain ⟨D, left, cnt, h1, _⟩ := hm.rg
    obtain ⟨es, clock, since, seen, c0, q1, q2, q3, q4, q5, q6⟩ := h1
    rw [hh] at q5
    cases q5
def EdgesPost (w : World) (E : List AK.Ed) (e : Ending) (w' : World) : Prop := ∃ A c, e = .returned (.slice A E.length c) ∧ DRow w' (.slice A E.length c) E ∧ Ext w w' ∧ ∀ j, (Value.slice A E.length c).ownBlock = some j → w.heap.size ≤ j
section
variable {w : World} {F : FoP} {n N : Nat} {E : List AK.Ed}
end
end Go.Proofs.YtckcbfnffmohgaaGreat
namespace Go.Proofs.YtckcbfnffmohgaaGreat
open Go Go.RowKit SQ TR DF PD
set_option linter.unusedVariables false

set_option maxHeartbeats 1000000 in
theorem tnew_no (w : World) (n : Int) (h : n < 1 ∨ 60 < n) : Calls Tryz.prog 52 #[.int .i64 n] w fun e w' => e = .returned (.tuple #[.pointer none, errV 1]) ∧ w = w' := by
  by_cases h1 : n < 1
  · clear h
    go_enter Tryz.func52, Tryz.ntmps52
    go_wp2
    go_ret2
    exact ⟨rfl, rfl⟩
  · have h2 : 60 < n := by omega
    clear h
    go_enter Tryz.func52, Tryz.ntmps52
    go_wp2
    go_ret2
    exact ⟨rfl, rfl⟩
/-- New of the first k nodes. -/
structure NwAt (w wr : World) (fb mb eb n k : Nat) (v : Value) : Prop where
  blk : Blk wr fb 149 #[.map (some mb), v, .map (some eb)]
  row : wr.ownsRow 0 3 1 v k (intsV ((List.range k).map fun (x : Nat) => (x : Int)))
  ways : ∃ s m, VM kI wr mb k s m ∧ ∀ r : Nat, r < k → ∃ q, m r = some (.pointer q) ∧ RowAt wr q [(r : Int)]
  edges : VM kE wr eb 0 0 (fun _ => none)
  bel : Below w.heap.size w wr
  new : ∀ j, v.ownBlock = some j → w.heap.size ≤ j
  nn : w.heap.size ≤ fb ∧ w.heap.size ≤ mb ∧ w.heap.size ≤ eb ∧ mb ≠ eb
theorem range_snoc (k : Nat) : (List.range (k + 1)).map (fun (x : Nat) => (x : Int)) = (List.range k).map (fun (x : Nat) => (x : Int)) ++ [(k : Int)] := by rw [List.range_succ, List.map_append]; rfl
/-- A number more behind the roots; the slice is stored. -/
structure NwMid (w wr : World) (fb mb eb n k : Nat) (v : Value) : Prop where
  blk : Blk wr fb 149 #[.map (some mb), v, .map (some eb)]
  row : wr.ownsRow 0 3 1 v (k + 1) (intsV ((List.range (k + 1)).map fun (x : Nat) => (x : Int)))
  ways : ∃ s m, VM kI wr mb k s m ∧ ∀ r : Nat, r < k → ∃ q, m r = some (.pointer q) ∧ RowAt wr q [(r : Int)]
  edges : VM kE wr eb 0 0 (fun _ => none)
  bel : Below w.heap.size w wr
  new : ∀ j, v.ownBlock = some j → w.heap.size ≤ j
  nn : w.heap.size ≤ fb ∧ w.heap.size ≤ mb ∧ w.heap.size ≤ eb ∧ mb ≠ eb
theorem NwAt.push {w wr w5 : World} {fb mb eb n k g c : Nat} {v : Value} {o : Obj} (h : NwAt w wr fb mb eb n k v) (ho : w5.ownsRow 0 3 1 (.slice (some ⟨g, 0, none⟩) (k + 1) c) (k + 1) (intsV ((List.range k).map fun (x : Nat) => (x : Int)) ++ [.int .i64 k]))
    (hc : Chg (fun j => v.ownBlock = some j) (wr.alloc o) w5) (hat : v.ownBlock = some g ∨ g = (wr.alloc o).heap.size) :
    Blk w5 fb 149 #[.map (some mb), v, .map (some eb)] ∧ NwMid w (w5.setCell ⟨fb, 1, none⟩ (.slice (some ⟨g, 0, none⟩) (k + 1) c)) fb mb eb n k (.slice (some ⟨g, 0, none⟩) (k + 1) c) := by
  obtain ⟨s, m, h1, h2⟩ := h.ways
  have nfb := own_ne h.row h.blk (by decide)
  have nmb := h1.own_ne h.row
  have neb := h.edges.own_ne h.row
  have hfm : fb ≠ mb := h1.blk_ne h.blk
  have hfe : fb ≠ eb := h.edges.blk_ne h.blk
  have hb5 : Blk w5 fb 149 #[.map (some mb), v, .map (some eb)] := (h.blk.alloc o).chg hc nfb
  have hgf : g ≠ fb := by
    rintro rfl
    rcases hat with hat | hat
    · exact nfb hat
    · have := h.blk.lt; simp at hat; omega
  have hal : Chg (fun _ => False) wr (wr.alloc o) := (Chg.refl _ _).alloc o
  refine ⟨hb5, ⟨hb5.set_ 1 _, ?_, ⟨s, m, (((h1.chg hal (fun x => x)).chg hc nmb).chg (chg_at _ _ _ _) (fun e => hfm e.symm)), fun r hr => ?_⟩, ((h.edges.chg hal (fun x => x)).chg hc neb).chg (chg_at _ _ _ _) (fun e => hfe e.symm), ?_, ?_, h.nn⟩⟩
  · rw [range_snoc]
    have : intsV ((List.range k).map (fun (x : Nat) => (x : Int)) ++ [(k : Int)]) = intsV ((List.range k).map fun (x : Nat) => (x : Int)) ++ [.int .i64 k] := by simp [intsV]
    rw [this]
    exact own_chg ho (chg_at w5 fb 1 _) (fun j hj e => by
      have : g = j := by simpa [Value.ownBlock] using hj
      exact hgf (this.trans e))
  · obtain ⟨q, q1, q2⟩ := h2 r hr
    refine ⟨q, q1, ((q2.chg hal (fun _ h => absurd h (fun x => x))).chg hc (fun j hj cs hb => ?_)).chg (chg_at w5 fb 1 _) (fun j hj cs hb => ?_)⟩
    · rcases h.row.2 with ⟨rfl, _⟩ | ⟨g', cap, cur, rfl, _, hh, _⟩
      · simp [Value.ownBlock] at hj
      · have e : g' = j := by simpa [Value.ownBlock] using hj
        subst e
        exact Blk.ne_ (t := 3) (Blk.alloc hh o) hb (by decide) rfl
    · subst hj; exact Blk.ne_ hb5 hb (by decide) rfl
  · exact (((Chg.of_below (h.bel.alloc h.bel.size o)).trans hc (fun i hi hs => h.new i hs)).setCell (p := ⟨fb, 1, none⟩) (fun _ => h.nn.1) _).below (Nat.le_refl _) (fun _ _ h => h)
  · intro j hj
    have : g = j := by simpa [Value.ownBlock] using hj
    subst this
    rcases hat with hat | hat
    · exact h.new _ hat
    · have := h.bel.size; simp at hat; omega
theorem NwMid.next {w wr w8 : World} {fb mb eb n k : Nat} {v : Value} {q : Option Addr} (h : NwMid w wr fb mb eb n k v) (hx : Ext wr w8) (hq : RowAt w8 q [(k : Int)]) (hk : k < 60) :
    Blk w8 fb 149 #[.map (some mb), v, .map (some eb)] ∧ ∃ w9, (Instr.mapUpdate 146 (.map (some mb)) (.int .i64 k) (.pointer q)).run Tryz.prog w8 = .ok () w9 ∧ NwAt w w9 fb mb eb n (k + 1) v := by
  obtain ⟨s, m, h1, h2⟩ := h.ways
  have hb8 : Blk w8 fb 149 #[.map (some mb), v, .map (some eb)] := h.blk.chg (Chg.of_below hx) (by have := h.blk.lt; omega)
  have hv8 := h1.ext hx
  have hfm : fb ≠ mb := h1.blk_ne h.blk
  obtain ⟨w9, hr, hv9, hc9, hs9⟩ := hv8.put Tryz.underlying146 (by omega) (k : Int) (WalkArith.wf_i64 (by omega)) (.pointer q)
  have row8 := own_chg h.row (Chg.of_below hx) (fun j hj => by have := own_lt h.row hj; omega)
  have nmb := hv8.own_ne row8
  have noseq : ∀ j, j = mb → ∀ cs, ¬ Blk w8 j 189 cs := fun j hj cs hb => by subst hj; exact hv8.blk_ne hb rfl
  refine ⟨hb8, w9, hr, ⟨hb8.chg hc9 hfm, own_chg row8 hc9 (fun j hj e => nmb (by rw [hj, e])), ⟨_, _, hv9, fun r hr => ?_⟩, (h.edges.ext hx).chg hc9 (fun e => h.nn.2.2.2 e.symm), ?_, h.new, h.nn⟩⟩
  · by_cases e : r = k
    · subst e
      exact ⟨q, by simp [updV], hq.chg hc9 noseq⟩
    · obtain ⟨q', q1, q2⟩ := h2 r (by omega)
      exact ⟨q', by rw [updV, if_neg (by omega)]; exact q1, (q2.ext hx).chg hc9 noseq⟩
  · have b8 : Below w.heap.size w w8 := h.bel.trans (Below.mono hx h.bel.size)
    exact ((Chg.of_below b8).trans hc9 (fun i hi e => by have := h.nn; omega)).below (Nat.le_refl _) (fun _ _ h => h)
def NewPost (w : World) (n : Nat) (e : Ending) (w' : World) : Prop := ∃ F : FoP, e = .returned (.tuple #[.pointer (some ⟨F.fb, 0, none⟩), .nilIface]) ∧ FoAt w' F n n [] ∧ Ext w w' ∧ w.heap.size ≤ F.fb ∧ ∀ k, F.S k → w.heap.size ≤ k
theorem NwAt.post {w wr : World} {fb mb eb n : Nat} {v : Value} (h : NwAt w wr fb mb eb n n v) (hn : 1 ≤ n ∧ n ≤ 60) : ∃ F : FoP, F.fb = fb ∧ FoAt wr F n n [] ∧ Ext w wr ∧ w.heap.size ≤ F.fb ∧ ∀ k, F.S k → w.heap.size ≤ k := by
  obtain ⟨g, c, rfl, hc, _⟩ := own_form h.row hn.1
  have h0 : ∀ u v, ¬ adj [] u v := fun u v e => by simp [adj] at e
  have one : ∀ {x y}, Cn (adj []) x y → x = y := fun c => c.into (R := fun x y => x = y) (fun _ => rfl) (fun u v e => absurd e (h0 u v)) (fun _ _ h => h.symm) (fun _ _ _ h k => h.trans k)
  have gk : ∀ v, v < n → PD.g ((List.range n).map fun (x : Nat) => (x : Int)) v = (v : Int) := fun v hv => by simp [PD.g, List.getD_eq_getElem?_getD, hv]
  refine ⟨⟨fb, mb, g, eb, c⟩, rfl, ⟨h.blk, hn, Fo.nil n, h.nn.2.2.2, ⟨(List.range n).map fun (x : Nat) => (x : Int), ?_⟩, ⟨fun _ => none, h.edges.mono (Nat.zero_le _), fun x _ => by simp⟩⟩, h.bel, h.nn.1, ?_⟩
  · obtain ⟨s, m, h1, h2⟩ := h.ways
    refine ⟨s, m, ⟨by simp, fun v hv => ⟨v, gk v hv, Nat.le_refl _, .refl _⟩, fun u v e => absurd e (h0 u v)⟩, h.row, h1, fun r hr _ => ?_⟩
    obtain ⟨q, q1, q2⟩ := h2 r hr
    exact ⟨q, [(r : Int)], q1, q2, TR.Way.one (by omega) (fun x => h0 r x) (fun x y e => adj_symm e)⟩
  · rintro k (rfl | rfl | rfl)
    · exact h.nn.2.1
    · exact h.new _ (by simp [Value.ownBlock])
    · exact h.nn.2.2.1
set_option maxRecDepth 100000 in
set_option maxHeartbeats 1000000 in
theorem tnew_ok (w : World) (n : Nat) (hn : 1 ≤ n ∧ n ≤ 60) : Calls Tryz.prog 52 #[.int .i64 n] w (NewPost w n) := by
  have hmm := @run_makeMap Tryz.prog
  have z1 : ¬ (n : Int) < 1 := by omega
  have z2 : ¬ (60 : Int) < (n : Int) := by omega
  go_enter Tryz.func52, Tryz.ntmps52
  go_wp2
  go_loopw [20] (fun v20 wr => ∃ (k : Nat) (v : Value), k ≤ n ∧ v20 = .int .i64 k ∧ Hid (NwAt w wr (w.heap.size + 2) w.heap.size (w.heap.size + 1) n k v)) (fun v20 _ => n - (intOf v20).toNat)
  case atStart =>
    refine ⟨0, .slice none 0 0, by omega, rfl, ?_, World.ownsRow_nil _ _ _ _, ⟨0, fun _ => none, ?_, fun r hr => by omega⟩, ?_, ?_, fun j hj => by simp [Value.ownBlock] at hj, by omega⟩
    · have := Blk.new ((w.alloc (.map #[] 0)).alloc (.map #[] 0)) 149 #[.map (some w.heap.size), .slice none 0 0, .map (some (w.heap.size + 1))]
      simpa using this
    · exact ((VM.made kI w).ext ((Below.refl _ _).alloc (Nat.le_refl _) _)).ext ((Below.refl _ _).alloc (Nat.le_refl _) _)
    · have := (VM.made kE (w.alloc (.map #[] 0))).ext ((Below.refl _ _).alloc (Nat.le_refl _) (.cells #[.map (some w.heap.size), .slice none 0 0, .map (some (w.heap.size + 1))] 149))
      simpa using this
    · exact (((Below.refl _ _).alloc (Nat.le_refl _) _).alloc (by simp) _).alloc (by simp; omega) _
  case round =>
    obtain ⟨k, v, hk, rfl, HR⟩ := hrel
    have d0 : wr.cell? ⟨w.heap.size + 2, 0, none⟩ = some (.map (some w.heap.size)) := HR.out.blk.cell 0
    have d1 : wr.cell? ⟨w.heap.size + 2, 1, none⟩ = some v := HR.out.blk.cell 1
    by_cases hlt : k < n
    · obtain ⟨A, c, hv, _⟩ := own_slice' HR.out.row
      subst hv
      have z0 : (k : Int) < (n : Int) := by omega
      have hbl := HR.out.blk.lt
      have g1 : ∀ o, (wr.alloc o).cell? ⟨w.heap.size + 2, 1, none⟩ = some (.slice A k c) := fun o => (HR.out.blk.alloc o).cell 1
      go_wp2_with (at_builtin; refine wpList_push _ rfl (.tmp 27) (.tmp 29) 39 rfl 3 (.int .i64 0) 8 Tryz.underlying39 infoI rfl (.slice A k c) k (intsV ((List.range k).map fun (x : Nat) => (x : Int))) rfl (own_chg HR.out.row ((Chg.refl (fun _ => False) _).alloc _) (fun _ _ h => h)) ⟨by omega, by omega⟩ (.int .i64 k) wr.heap.size rfl (cell_new1 rfl _ _) rfl ?_; intro g5 c5 w5 ho5 hc5 hat5 _; have HP := Lib.hid (HR.out.push ho5 hc5 hat5); have q1 : w5.cell? ⟨w.heap.size + 2, 1, none⟩ = some (.slice A k c) := HP.out.1.cell 1; have q2 : w5.frozen? ⟨w.heap.size + 2, 1, none⟩ = false := HP.out.1.frozen 1; clear ho5 hc5 hat5)
      have HM := Lib.hid HP.out.2
      clear HP q1 q2
      generalize hw6 : w5.setCell ⟨w.heap.size + 2, 1, none⟩ (.slice (some ⟨g5, 0, none⟩) (k + 1) c5) = w6 at HM ⊢
      have h6 : w5.heap.size = w6.heap.size := by rw [← hw6]; simp [World.setCell]
      clear hw6
      rw [h6]
      clear h6
      refine (row_of (n := 1) (c := 1) (ints_one _ _ _) rfl (by omega)).mono ?_
      rintro e w8 ⟨q, rfl, s8, x8⟩
      have X8 : Hid (Ext w6 w8) := (Ext.alloc w6 _).trans x8
      have HN := Lib.hid (HM.out.next X8.out s8 (by omega))
      have f0 : w8.cell? ⟨w.heap.size + 2, 0, none⟩ = some (.map (some w.heap.size)) := HN.out.1.cell 0
      obtain ⟨w9, hput, hnw⟩ := HN.out.2
      have HW := Lib.hid hnw
      clear s8 x8 hnw HN d0 d1 g1
      go_wp2
      go_roundw
      case rel => exact ⟨k + 1, _, by omega, by go_num, HW⟩
      case measure => simp [intOf]; omega
    · obtain rfl : k = n := by omega
      go_wp2
      go_ret2
      obtain ⟨F, hF, a1, a2, a3, a4⟩ := HR.out.post hn
      exact ⟨F, congrArg (fun z => Ending.returned (.tuple #[.pointer (some ⟨z, 0, none⟩), .nilIface])) hF.symm, a1, a2, a3, a4⟩
end Go.Proofs.YtckcbfnffmohgaaGreat
