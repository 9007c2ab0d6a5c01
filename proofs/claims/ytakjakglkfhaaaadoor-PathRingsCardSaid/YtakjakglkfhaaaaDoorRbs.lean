/-
  Rows of one's own that grow: of edges, of numbers. No conditions.
  Walk of the references' Count. Condition: the parts lie in memory as 'IntsAt' says.
  Walk of the references' BridgesOf. Conditions: the edges lie in memory as 'EdsAt' says, and are edges that may be.
  Walk of the references' BridgesOf. Conditions: the edges lie in memory as 'EdsAt' says, and are edges that may be.
  Walk of the references' JointsOf. Conditions: the edges lie in memory as 'EdsAt' says, and are edges that may be.
-/
import Derived.Test.YtakjakglkfhaaaaDoorPf0
import Derived.Test.YtakjakglkfhaaaaDoorRf2
import Derived.Test.YtakjakglkfhaaaaDoorPn
import Derived.Test.YtakjakglkfhaaaaDoorInts
import Derived.Test.YtakjakglkfhaaaaDoorBqs
import Derived.Test.YtakjakglkfhaaaaDoorRf1
import Derived.Test.YtakjakglkfhaaaaDoorSe
namespace Go.Proofs.YtakjakglkfhaaaaDoor
open Go Go.RowKit
set_option linter.unusedVariables false

structure GrE (w : World) (d : List AK.Ed) (vO : Value) (wr : World) : Prop where
  row : DRow wr vO d
  ext : Ext w wr
  new : ∀ j, vO.ownBlock = some j → w.heap.size ≤ j
structure GrI (w : World) (d : List Int) (vO : Value) (wr : World) : Prop where
  row : wr.ownsRow 0 3 1 vO d.length (intsV d)
  ext : Ext w wr
  new : ∀ j, vO.ownBlock = some j → w.heap.size ≤ j
theorem snoc_len' {α : Type} (d : List α) (x : α) : (d ++ [x]).length = d.length + 1 := by rw [List.length_append]; rfl
section
variable {w wr w' : World} {d : List AK.Ed} {x : AK.Ed} {di : List Int} {y : Int} {vO : Value} {g c : Nat}
theorem GrE.nil (h : Ext w wr) : GrE w [] (.slice none 0 0) wr := ⟨World.ownsRow_nil _ _ _ _, h, fun j hj => by simp [Value.ownBlock] at hj⟩
theorem GrI.nil (h : Ext w wr) : GrI w [] (.slice none 0 0) wr := ⟨World.ownsRow_nil _ _ _ _, h, fun j hj => by simp [Value.ownBlock] at hj⟩
theorem GrE.moved (h : GrE w d vO wr) (hx : Ext wr w') : GrE w d vO w' :=
  ⟨own_chg h.row (Chg.of_below hx) (fun k hk => by have := own_lt h.row hk; omega), Ext.trans h.ext hx, h.new⟩
theorem GrI.moved (h : GrI w di vO wr) (hx : Ext wr w') : GrI w di vO w' :=
  ⟨own_chg h.row (Chg.of_below hx) (fun k hk => by have := own_lt h.row hk; omega), Ext.trans h.ext hx, h.new⟩
theorem GrE.push (h : GrE w d vO wr) (ho : w'.ownsRow 0 63 2 (.slice (some ⟨g, 0, none⟩) (d.length + 1) c) (d.length + 1) (rowsOf edC d ++ edC x)) (hc : Chg (fun k => vO.ownBlock = some k) wr w') (hat : vO.ownBlock = some g ∨ g = wr.heap.size) : GrE w (d ++ [x]) (.slice (some ⟨g, 0, none⟩) (d.length + 1) c) w' := by
  refine ⟨?_, ((Chg.of_below h.ext).trans hc (fun k _ hk => h.new k hk)).below (Nat.le_refl _) (fun _ _ h => h), fun j hj => ?_⟩
  · unfold DRow
    rw [List.length_append, List.length_singleton, rowsOf_app]
    have : rowsOf edC [x] = edC x := by simp [rowsOf]
    rw [this]; exact ho
  · simp [Value.ownBlock] at hj
    subst hj
    rcases hat with q | q
    · exact h.new _ q
    · have := h.ext.size; omega
theorem GrI.push (h : GrI w di vO wr) (ho : w'.ownsRow 0 3 1 (.slice (some ⟨g, 0, none⟩) (di.length + 1) c) (di.length + 1) (intsV di ++ [.int .i64 y])) (hc : Chg (fun k => vO.ownBlock = some k) wr w') (hat : vO.ownBlock = some g ∨ g = wr.heap.size) : GrI w (di ++ [y]) (.slice (some ⟨g, 0, none⟩) (di.length + 1) c) w' := by
  refine ⟨?_, ((Chg.of_below h.ext).trans hc (fun k _ hk => h.new k hk)).below (Nat.le_refl _) (fun _ _ h => h), fun j hj => ?_⟩
  · rw [List.length_append, List.length_singleton]
    have : intsV (di ++ [y]) = intsV di ++ [.int .i64 y] := by simp [intsV]
    rw [this]; exact ho
  · simp [Value.ownBlock] at hj
    subst hj
    rcases hat with q | q
    · exact h.new _ q
    · have := h.ext.size; omega
theorem GrE.eds (h : GrE w d vO wr) : ∃ A c, vO = .slice A d.length c ∧ EdsAt wr A d ∧ d.length ≤ c ∧ c ≤ maxLen := by
  have h3 := h.row
  unfold DRow at h3
  obtain ⟨A, c, rfl, hc⟩ := own_slice3 h3
  exact ⟨A, c, rfl, (DRow.eds h.row rfl).1, hc, own_capmax h3⟩
theorem GrI.ints (h : GrI w di vO wr) : ∃ A c, vO = .slice A di.length c ∧ IntsAt wr A di ∧ di.length ≤ c ∧ c ≤ maxLen := by
  obtain ⟨A, c, rfl, hc⟩ := own_slice3 h.row
  exact ⟨A, c, rfl, (IntsAt.of_own h.row).1, hc, own_capmax h.row⟩
end
end Go.Proofs.YtakjakglkfhaaaaDoor
namespace Go.Proofs.YtakjakglkfhaaaaDoor
open Go Go.RowKit PT
set_option linter.unusedVariables false

theorem natv_ints {w : World} {g c n : Nat} {p : List Nat} (h : NRow w (.slice (some ⟨g, 0, none⟩) n c) n p) : IntsAt w (some ⟨g, 0, none⟩) (p.map fun (x : Nat) => (x : Int)) ∧ p.length = n := by
  unfold NRow at h
  have e : natv p = (p.map fun (x : Nat) => (x : Int)).map (Value.int .i64) := by simp [natv]
  rw [e] at h
  have := IntsAt.of_own h
  exact ⟨this.1, by simpa using this.2⟩
theorem cnt_step (p : List Nat) (k : Nat) : PD.cnt (fx p) (k + 1) = PD.cnt (fx p) k + if p[k]? = some k then 1 else 0 := by
  simp [PD.cnt, fx]
theorem ret_i {a b : Int} (h : a = b) : Ending.returned (.int .i64 a) = .returned (.int .i64 b) := by rw [h]
set_option maxHeartbeats 1000000 in
theorem count_any (w : World) (A : Option Addr) (n c : Nat) (p : List Nat) (hp : IntsAt w A (p.map fun (x : Nat) => (x : Int))) (hn : p.length = n) (hnb : n ≤ 1000000) :
    Calls Tryd.prog 44 #[.slice A n c] w fun e w' => e = .returned (.int .i64 (cntP n p : Nat)) ∧ Below w.heap.size w w' := by
  have HX := Lib.hid hp
  have HN := Lib.hid hn
  clear hp hn
  go_enter Tryd.func44, Tryd.ntmps44
  go_wp2
  go_loopw [3, 4] (fun v3 v4 wr => ∃ (k s : Nat), k ≤ n ∧ s ≤ k ∧ v3 = .int .i64 s ∧ v4 = .int .i64 k ∧ Hid (s = PD.cnt (fx p) k ∧ Ext w wr)) (fun _ v4 _ => n - (intOf v4).toNat)
  case atStart => exact ⟨0, 0, Nat.zero_le _, Nat.le_refl _, rfl, rfl, rfl, Ext.refl _⟩
  case round =>
    obtain ⟨k, s, hk, hs, rfl, rfl, hR⟩ := hrel
    by_cases hlt : k < n
    · obtain ⟨x, hx⟩ : ∃ x, p[k]? = some x := ⟨_, List.getElem?_eq_getElem (by rw [HN.out]; exact hlt)⟩
      rcases (HX.out.ext hR.out.2) with h0 | ⟨b, off, rfl, _, hc⟩
      · have := HN.out
        simp at h0; subst h0; simp at this; omega
      have c1 := hc k x (by rw [List.getElem?_map, hx]; rfl)
      have z0 : (0 : Int) ≤ (k : Int) := by omega
      have z1 : (k : Int) < (n : Int) := by omega
      have HS := Lib.hid (cnt_step p k)
      have HX2 := Lib.hid hx
      clear hc hx
      by_cases e : x = k
      · have q : ((x : Int) == (k : Int)) = true := by simp; omega
        have HZ : Hid (s + 1 = PD.cnt (fx p) (k + 1)) := by rw [Hid, HS.out, HX2.out, e, if_pos rfl, hR.out.1]
        have HE := Lib.hid hR.out.2
        clear e hR
        go_wp2
        go_roundw
        case rel => exact ⟨k + 1, s + 1, by omega, by omega, by go_num, by go_num, HZ.out, HE.out⟩
        case measure => simp [intOf]; omega
      · have q : ((x : Int) == (k : Int)) = false := by simp; omega
        have HZ : Hid (s = PD.cnt (fx p) (k + 1)) := by rw [Hid, HS.out, HX2.out, if_neg (fun w => e (Option.some.inj w)), hR.out.1]; rfl
        have HE := Lib.hid hR.out.2
        clear e hR
        go_wp2
        go_roundw
        case rel => exact ⟨k + 1, s, by omega, by omega, rfl, by go_num, HZ.out, HE.out⟩
        case measure => simp [intOf]; omega
    · obtain rfl : n = k := by omega
      have HE := Lib.hid hR
      clear hR
      go_wp2
      go_ret
      exact ⟨ret_i (by rw [HE.out.out.1]; rfl), HE.out.out.2⟩
end Go.Proofs.YtakjakglkfhaaaaDoor
namespace Go.Proofs.YtakjakglkfhaaaaDoor
open Go Go.RowKit PT
set_option linter.unusedVariables false

theorem inn_fine {n : Nat} {l : List AK.Ed} (h : ∀ x ∈ l, 0 ≤ x.1 ∧ x.1 < x.2 ∧ x.2 < (n : Int)) : Inn n l := fun x hx => by have := h x hx; omega
theorem prs_iff {n : Nat} {l : List AK.Ed} (h : Inn n l) (x y : Nat) : PD.adj l x y ↔ (x, y) ∈ prs l ∨ (y, x) ∈ prs l := by
  have key : ∀ x y : Nat, ((x : Int), (y : Int)) ∈ l ↔ (x, y) ∈ prs l := fun x y => by
    unfold prs
    rw [List.mem_map]
    constructor
    · intro hm; exact ⟨_, hm, by simp⟩
    · rintro ⟨⟨a, b⟩, hm, he⟩
      have := h _ hm
      simp only [Prod.mk.injEq] at he this
      have e1 : a = (x : Int) := by omega
      have e2 : b = (y : Int) := by omega
      rw [← e1, ← e2]; exact hm
  unfold PD.adj
  rw [key, key]
/-- Without the edge at a place. -/
theorem erase_mn {n : Nat} {l : List AK.Ed} (h : ∀ x ∈ l, 0 ≤ x.1 ∧ x.1 < x.2 ∧ x.2 < (n : Int)) (hp : l.Pairwise ltE) {i u v : Nat} (hi : l[i]? = some ((u : Int), (v : Int))) (x y : Nat) : PD.adj (l.eraseIdx i) x y ↔ DF.Mn (PD.adj l) u v x y := by
  have hil : i < l.length := (List.getElem?_eq_some_iff.1 hi).1
  have hnd : l.Nodup := hp.imp fun {a b} q e => by subst e; unfold ltE at q; omega
  have key : ∀ z : AK.Ed, z ∈ l.eraseIdx i ↔ z ∈ l ∧ z ≠ ((u : Int), (v : Int)) := fun z => by
    rw [List.mem_eraseIdx_iff_getElem?]
    constructor
    · rintro ⟨j, hj, hz⟩
      refine ⟨List.mem_of_getElem? hz, fun e => ?_⟩
      subst e
      obtain ⟨hjl, ej⟩ := List.getElem?_eq_some_iff.1 hz
      obtain ⟨_, ei⟩ := List.getElem?_eq_some_iff.1 hi
      exact hj ((List.getElem_inj hnd).1 (ej.trans ei.symm))
    · rintro ⟨hz, hne⟩
      obtain ⟨j, hj⟩ := List.getElem?_of_mem hz
      refine ⟨j, fun e => ?_, hj⟩
      subst e
      rw [hi] at hj
      injection hj with hj
      exact hne hj.symm
  unfold DF.Mn PD.adj
  rw [key, key]
  have huv := h _ (List.mem_of_getElem? hi)
  simp only at huv
  simp only [ne_eq, Prod.mk.injEq]
  constructor
  · rintro (⟨h1, h2⟩ | ⟨h1, h2⟩)
    · have := h _ h1
      simp only at this
      exact ⟨.inl h1, by omega, by omega⟩
    · have := h _ h1
      simp only at this
      exact ⟨.inr h1, by omega, by omega⟩
  · rintro ⟨h1 | h1, h2, h3⟩
    · exact .inl ⟨h1, by omega⟩
    · exact .inr ⟨h1, by omega⟩
/-- What the reference tells of an edge. -/
noncomputable def brP (l : List AK.Ed) (e : AK.Ed) : Bool := by classical exact decide (¬ DF.Go2 l e.1.toNat e.2.toNat)
theorem brP_iff {l : List AK.Ed} {u v : Nat} : brP l ((u : Int), (v : Int)) = true ↔ ¬ DF.Go2 l u v := by
  unfold brP
  simp
theorem brs_filter {n : Nat} {l : List AK.Ed} (h : ∀ x ∈ l, 0 ≤ x.1 ∧ x.1 < x.2 ∧ x.2 < (n : Int)) (hp : l.Pairwise ltE) : BrsOf n l (l.filter (brP l)) := by
  have nat : ∀ x ∈ l, ∃ c d : Nat, x = ((c : Int), (d : Int)) ∧ c < d := fun x hx => by
    obtain ⟨h1, h2, h3⟩ := h x hx
    obtain ⟨c, hc⟩ := Int.eq_ofNat_of_zero_le h1
    obtain ⟨d, hd⟩ := Int.eq_ofNat_of_zero_le (show 0 ≤ x.2 by omega)
    exact ⟨c, d, Prod.ext hc hd, by omega⟩
  refine ⟨⟨fun e he => ?_, fun c d hadj => ?_⟩, hp.sublist List.filter_sublist, fun e he => h e (List.mem_filter.1 he).1⟩
  · obtain ⟨h1, h2⟩ := List.mem_filter.1 he
    obtain ⟨c, d, rfl, hcd⟩ := nat e h1
    refine ⟨c, d, ?_, .inl h1⟩
    unfold DF.ek; rw [Nat.min_eq_left (by omega), Nat.max_eq_right (by omega)]
  · rw [List.mem_filter]
    have key : ∀ c d : Nat, ((c : Int), (d : Int)) ∈ l → (DF.ek c d ∈ l ∧ brP l (DF.ek c d) = true ↔ ¬ DF.Go2 l c d) := fun c d hm => by
      have := h _ hm
      simp only at this
      have e : DF.ek c d = ((c : Int), (d : Int)) := by unfold DF.ek; rw [Nat.min_eq_left (by omega), Nat.max_eq_right (by omega)]
      rw [e, brP_iff]
      exact ⟨fun w => w.2, fun w => ⟨hm, w⟩⟩
    rcases hadj with hm | hm
    · exact key c d hm
    · rw [DF.ek_comm, key d c hm]
      exact ⟨fun w z => w z.flip, fun w z => w z.flip⟩
theorem BrsOf.uniq {n : Nat} {l x y : List AK.Ed} (hx : BrsOf n l x) (hy : BrsOf n l y) : x = y :=
  rises_ext hx.2.1 hy.2.1 fun e => by
    constructor
    · intro he
      obtain ⟨c, d, rfl, hadj⟩ := hx.1.edm e he
      exact (hy.1.edb c d hadj).2 ((hx.1.edb c d hadj).1 he)
    · intro he
      obtain ⟨c, d, rfl, hadj⟩ := hy.1.edm e he
      exact (hx.1.edb c d hadj).2 ((hy.1.edb c d hadj).1 he)
end Go.Proofs.YtakjakglkfhaaaaDoor
namespace Go.Proofs.YtakjakglkfhaaaaDoor
open Go Go.RowKit PT
set_option linter.unusedVariables false

def RbPost (w : World) (n : Nat) (l : List AK.Ed) (e : Ending) (w' : World) : Prop := ∃ A c x, e = .returned (.slice A (x : List AK.Ed).length c) ∧ EdsAt w' A x ∧ x.length ≤ 200 ∧ Ext w w' ∧ BrsOf n l x
theorem take_filter {l : List AK.Ed} {P : AK.Ed → Bool} {i : Nat} {x : AK.Ed} (h : l[i]? = some x) : (l.take (i + 1)).filter P = (l.take i).filter P ++ if P x = true then [x] else [] := by
  rw [take_snoc' h, List.filter_append]
  congr 1
  by_cases q : P x = true
  · rw [if_pos q, List.filter_cons_of_pos q]; rfl
  · rw [if_neg q, List.filter_cons_of_neg q]; rfl
theorem filt_len (l : List AK.Ed) (P : AK.Ed → Bool) (i : Nat) : ((l.take i).filter P).length ≤ i := Nat.le_trans (List.length_filter_le _ _) (by rw [List.length_take]; omega)
set_option maxHeartbeats 4000000 in
set_option maxRecDepth 100000 in
theorem bridgesOf_any (w : World) (n : Nat) (A : Option Addr) (m c : Nat) (l : List AK.Ed) (hl : l.length = m) (hm : m ≤ 200) (hmc : m ≤ c) (hcm : c ≤ maxLen) (h : EdsAt w A l) (hn0 : 1 ≤ n) (hn : n ≤ 60) (hok : ∀ x ∈ l, 0 ≤ x.1 ∧ x.1 < x.2 ∧ x.2 < (n : Int)) (hp : l.Pairwise ltE) :
    Calls Tryd.prog 22 #[.int .i64 (n : Int), .slice A m c] w (RbPost w n l) := by
  have H := Lib.hid h
  have HL := Lib.hid hl
  have HOK := Lib.hid hok
  have HP := Lib.hid hp
  clear h hl hok hp
  go_enter Tryd.func22, Tryd.ntmps22
  go_wp2_with fail
  refine (parts_any w A n m c l HL.out hn0 (by omega) (by omega) H.out (inn_fine HOK.out)).mono ?_
  rintro e w1 ⟨p, gp, cp, rfl, hrow, hip, hb1, _⟩
  have HI1 := Lib.hid (natv_ints hrow)
  have HPP := Lib.hid hip
  have HX1 : Hid (Ext w w1) := hb1
  clear hrow hip hb1
  go_wp2_with fail
  refine (count_any w1 _ n cp p HI1.out.1 HI1.out.2 (by omega)).mono ?_
  rintro e w2 ⟨rfl, hb2⟩
  have HX2 : Hid (Ext w w2) := Ext.trans HX1.out hb2
  obtain ⟨all, hall⟩ : ∃ t, cntP n p = t := ⟨_, rfl⟩
  rw [hall]
  have HALL := Lib.hid hall
  have hall60 : all ≤ 60 := by rw [← hall]; exact Nat.le_trans (PD.cnt_le _ _) hn
  clear HI1 HX1 hb2 hall
  go_wp2
  go_loopw [6, 7] (fun v6 v7 wr => ∃ (i : Nat) (d : List AK.Ed), i ≤ m ∧ d.length ≤ i ∧ v7 = .int .i64 i ∧ Hid (GrE w d v6 wr ∧ d = (l.take i).filter (brP l))) (fun _ v7 _ => m - (intOf v7).toNat)
  case atStart => exact ⟨0, [], Nat.zero_le _, Nat.le_refl _, rfl, GrE.nil HX2.out, by simp⟩
  case round =>
    obtain ⟨i, d, hi, hd, rfl, hR⟩ := hrel
    rename_i u6
    by_cases hlt : i < m
    · have hi0 : (0 : Int) ≤ (i : Int) := by omega
      have hi1 : (i : Int) < (m : Int) := by omega
      obtain ⟨x, hx⟩ : ∃ x, l[i]? = some x := ⟨_, List.getElem?_eq_getElem (by rw [HL.out]; exact hlt)⟩
      have hxo := HOK.out x (List.mem_of_getElem? hx)
      obtain ⟨u, v, rfl, huv, hvn⟩ : ∃ u v : Nat, x = ((u : Int), (v : Int)) ∧ u < v ∧ v < n := by
        obtain ⟨u, hu⟩ := Int.eq_ofNat_of_zero_le hxo.1
        obtain ⟨v, hv⟩ := Int.eq_ofNat_of_zero_le (show 0 ≤ x.2 by omega)
        exact ⟨u, v, Prod.ext hu hv, by omega, by omega⟩
      have hmn := erase_mn HOK.out HP.out hx
      have hokE : ∀ z ∈ l.eraseIdx i, 0 ≤ z.1 ∧ z.1 < z.2 ∧ z.2 < (n : Int) := fun z hz => HOK.out z (List.mem_of_mem_eraseIdx hz)
      have HBC : Hid (∀ q, IsParts n (prs (l.eraseIdx i)) q → (all < cntP n q ↔ ¬ DF.Go2 l u v)) := fun q hq => by
        rw [← HALL.out]
        exact DF.bridge_count (prs_iff (inn_fine HOK.out)) (prs_iff (inn_fine hokE)) HPP.out hq hmn (.inl (List.mem_of_getElem? hx)) (by omega) hvn
      have HLE : Hid ((l.eraseIdx i).length ≤ 200) := by rw [Hid, List.length_eraseIdx]; have := HL.out; split <;> omega
      have HIE : Hid (Inn n (l.eraseIdx i)) := inn_fine hokE
      have HTF := Lib.hid (take_filter (P := brP l) hx)
      have HBI := Lib.hid (brP_iff (l := l) (u := u) (v := v))
      rcases H.out with h0 | ⟨bl, off, rfl, hbl, hev⟩
      · rw [h0] at hx; simp at hx
      have HC : Hid (∀ w', Ext w w' → w'.cell? ⟨bl, off + i * 2, none⟩ = some (.int .i64 (u : Int)) ∧ w'.cell? ⟨bl, off + i * 2 + 1, none⟩ = some (.int .i64 (v : Int))) := fun w' hw => by
        obtain ⟨e1, e2⟩ := hev i _ hx
        exact ⟨(hw.cell (p := ⟨bl, _, none⟩) hbl).trans e1, (hw.cell (p := ⟨bl, _, none⟩) hbl).trans e2⟩
      have HRO := Lib.hid (rout_any wr (some ⟨bl, off, none⟩) m c l i HL.out (by omega) hmc hcm hlt (H.out.ext hR.out.1.ext))
      have HG := Lib.hid hR.out
      clear hmn hokE hx hev hR hxo
      go_wp2_with fail
      refine HRO.out.mono ?_
      rintro e w3 ⟨A3, c3, rfl, hr3, hb3, _⟩
      obtain ⟨le, hle⟩ : ∃ t, (l.eraseIdx i).length = t := ⟨_, rfl⟩
      have HE3 := Lib.hid (DRow.eds hr3 rfl).1
      rw [hle] at HLE ⊢
      have HLEE := Lib.hid hle
      have HX3 : Hid (Ext wr w3) := hb3
      clear hr3 hb3 hle HRO
      go_wp2_with fail
      refine (parts_any w3 A3 n le c3 (l.eraseIdx i) HLEE.out hn0 (by omega) (by have := HLE.out; omega) HE3.out HIE.out).mono ?_
      rintro e w4 ⟨q, gq, cq, rfl, hrow, hiq, hb4, _⟩
      have HI4 := Lib.hid (natv_ints hrow)
      have HX4 : Hid (Ext wr w4) := Ext.trans HX3.out hb4
      have hbc := HBC.out q hiq
      clear hrow hiq hb4 HE3
      go_wp2_with fail
      refine (count_any w4 _ n cq q HI4.out.1 HI4.out.2 (by omega)).mono ?_
      rintro e w5 ⟨rfl, hb5⟩
      have HX5 : Hid (Ext wr w5) := Ext.trans HX4.out hb5
      have HG5 := Lib.hid (HG.out.1.moved HX5.out)
      obtain ⟨cn, hcn⟩ : ∃ t, cntP n q = t := ⟨_, rfl⟩
      rw [hcn] at hbc ⊢
      clear hb5 hcn HI4 HX4 HX3
      obtain ⟨e1, e2⟩ := HC.out w5 HG5.out.ext
      by_cases hgo : DF.Go2 l u v
      · have h1 : ¬ (all : Int) < (cn : Int) := by have := (not_congr hbc).2 (fun z => z hgo); omega
        have HD : Hid (d = (l.take (i + 1)).filter (brP l)) := by
          rw [Hid, HTF.out, if_neg (fun z => HBI.out.1 z hgo), ← HG.out.2, List.append_nil]
        clear hbc hgo
        go_wp2
        go_roundw
        case rel => exact ⟨i + 1, d, by omega, by omega, by go_num, HG5.out, HD.out⟩
        case measure => simp [intOf]; omega
      · have h1 : (all : Int) < (cn : Int) := by have := hbc.2 hgo; omega
        have HD : Hid (d ++ [((u : Int), (v : Int))] = (l.take (i + 1)).filter (brP l)) := by
          rw [Hid, HTF.out, if_pos (HBI.out.2 hgo), ← HG.out.2]
        clear hbc hgo
        go_wp2_with (at_builtin; refine wpList_pushS _ rfl (.tmp 26) (.tmp 31) 22 rfl 63 _ 2 16 Tryd.underlying22 infoEdge rfl (by decide) _ _ _ rfl (HG5.out.moved (Ext.alloc _ _)).row ⟨by omega, by omega⟩ (edC ((u : Int), (v : Int))) _ rfl rfl (news_cells rfl _ _) (by simp [edC, Value.oneCell']) ?_; intro g6 c6 w6 ho6 hc6 hat6 _; have HZ := Lib.hid ((HG5.out.moved (Ext.alloc _ _)).push ho6 hc6 hat6); clear ho6 hc6 hat6)
        go_roundw
        case rel => exact ⟨i + 1, _, by omega, by rw [snoc_len']; omega, by go_num, HZ.out, HD.out⟩
        case measure => simp [intOf]; omega
    · obtain rfl : m = i := by omega
      have HZ : Hid (RbPost w n l (.returned u6) wr) := by
        obtain ⟨A', c', rfl, h1, _, _⟩ := hR.out.1.eds
        have e : d = l.filter (brP l) := by rw [hR.out.2, List.take_of_length_le (by rw [HL.out]; exact Nat.le_refl _)]
        exact ⟨A', c', d, rfl, h1, by omega, hR.out.1.ext, by rw [e]; exact brs_filter HOK.out HP.out⟩
      clear hR
      go_wp2
      go_ret
      exact HZ.out
end Go.Proofs.YtakjakglkfhaaaaDoor
namespace Go.Proofs.YtakjakglkfhaaaaDoor
open Go Go.RowKit PT
set_option linter.unusedVariables false

/-- The edges that do not touch a. -/
def jnR (a : Nat) (e : AK.Ed) : Bool := decide (e.1 ≠ (a : Int)) && decide (e.2 ≠ (a : Int))
theorem jnR_no {l : List AK.Ed} {a : Nat} (x y : Nat) : PD.adj (l.filter (jnR a)) x y ↔ DF.No l a x y := by
  unfold DF.No PD.adj
  rw [List.mem_filter, List.mem_filter]
  simp only [jnR, Bool.and_eq_true, decide_eq_true_eq]
  constructor
  · rintro (⟨h, h1, h2⟩ | ⟨h, h1, h2⟩)
    · exact ⟨.inl h, by omega, by omega⟩
    · exact ⟨.inr h, by omega, by omega⟩
  · rintro ⟨h | h, h1, h2⟩
    · exact .inl ⟨h, by omega, by omega⟩
    · exact .inr ⟨h, by omega, by omega⟩
noncomputable def jtP (l : List AK.Ed) (a : Nat) : Bool := by classical exact decide (DF.Jt l a)
theorem jtP_iff {l : List AK.Ed} {a : Nat} : jtP l a = true ↔ DF.Jt l a := by unfold jtP; simp
noncomputable def jtsL (l : List AK.Ed) (a : Nat) : List Int := ((List.range a).filter (jtP l)).map fun (x : Nat) => (x : Int)
theorem jtsL_succ (l : List AK.Ed) (a : Nat) : jtsL l (a + 1) = jtsL l a ++ if jtP l a = true then [(a : Int)] else [] := by
  unfold jtsL
  rw [List.range_succ, List.filter_append, List.map_append]
  congr 1
  by_cases q : jtP l a = true
  · rw [if_pos q, List.filter_cons_of_pos q]; rfl
  · rw [if_neg q, List.filter_cons_of_neg q]; rfl
theorem jtsL_len (l : List AK.Ed) (a : Nat) : (jtsL l a).length ≤ a := by
  unfold jtsL
  rw [List.length_map]
  exact Nat.le_trans (List.length_filter_le _ _) (by rw [List.length_range]; exact Nat.le_refl _)
theorem jtsL_of (n : Nat) (l : List AK.Ed) : JtsOf n l (jtsL l n) := by
  refine ⟨?_, fun x => ?_⟩
  · unfold jtsL
    refine List.Pairwise.map _ (fun a b hab => ?_) (List.Pairwise.filter _ (List.pairwise_lt_range (n := n)))
    omega
  · unfold jtsL
    rw [List.mem_map]
    constructor
    · rintro ⟨c, hc, rfl⟩
      rw [List.mem_filter, List.mem_range, jtP_iff] at hc
      exact ⟨c, rfl, hc.1, hc.2⟩
    · rintro ⟨c, rfl, hc, hJ⟩
      exact ⟨c, by rw [List.mem_filter, List.mem_range, jtP_iff]; exact ⟨hc, hJ⟩, rfl⟩
theorem lt_ext {l m : List Int} (hl : l.Pairwise (fun x y => x < y)) (hm : m.Pairwise (fun x y => x < y)) (h : ∀ x, x ∈ l ↔ x ∈ m) : l = m := by
  induction l generalizing m with
  | nil =>
    cases m with
    | nil => rfl
    | cons y m => exact absurd ((h y).2 (List.mem_cons_self ..)) (List.not_mem_nil)
  | cons x l ih =>
    cases m with
    | nil => exact absurd ((h x).1 (List.mem_cons_self ..)) (List.not_mem_nil)
    | cons y m =>
      rw [List.pairwise_cons] at hl hm
      have e : x = y := by
        rcases List.mem_cons.1 ((h x).1 (List.mem_cons_self ..)) with w | w
        · exact w
        · rcases List.mem_cons.1 ((h y).2 (List.mem_cons_self ..)) with z | z
          · exact z.symm
          · have := hl.1 y z; have := hm.1 x w; omega
      subst e
      congr 1
      refine ih hl.2 hm.2 fun z => ⟨fun w => ?_, fun w => ?_⟩
      · rcases List.mem_cons.1 ((h z).1 (List.mem_cons_of_mem _ w)) with q | q
        · subst q; have := hl.1 z w; omega
        · exact q
      · rcases List.mem_cons.1 ((h z).2 (List.mem_cons_of_mem _ w)) with q | q
        · subst q; have := hm.1 z w; omega
        · exact q
theorem JtsOf.uniq {n : Nat} {l : List AK.Ed} {x y : List Int} (hx : JtsOf n l x) (hy : JtsOf n l y) : x = y :=
  lt_ext hx.1 hy.1 fun e => (hx.2 e).trans (hy.2 e).symm
def RjPost (w : World) (n : Nat) (l : List AK.Ed) (e : Ending) (w' : World) : Prop := ∃ A c x, e = .returned (.slice A (x : List Int).length c) ∧ IntsAt w' A x ∧ x.length ≤ 60 ∧ Ext w w' ∧ JtsOf n l x
set_option maxHeartbeats 4000000 in
set_option maxRecDepth 100000 in
theorem jointsOf_any (w : World) (n : Nat) (A : Option Addr) (m c : Nat) (l : List AK.Ed) (hl : l.length = m) (hm : m ≤ 200) (h : EdsAt w A l) (hn0 : 1 ≤ n) (hn : n ≤ 60) (hok : ∀ x ∈ l, 0 ≤ x.1 ∧ x.1 < x.2 ∧ x.2 < (n : Int)) :
    Calls Tryd.prog 23 #[.int .i64 (n : Int), .slice A m c] w (RjPost w n l) := by
  have H := Lib.hid h
  have HL := Lib.hid hl
  have HOK := Lib.hid hok
  clear h hl hok
  go_enter Tryd.func23, Tryd.ntmps23
  go_wp2_with fail
  refine (parts_any w A n m c l HL.out hn0 (by omega) (by omega) H.out (inn_fine HOK.out)).mono ?_
  rintro e w1 ⟨p, gp, cp, rfl, hrow, hip, hb1, _⟩
  have HI1 := Lib.hid (natv_ints hrow)
  have HPP := Lib.hid hip
  have HX1 : Hid (Ext w w1) := hb1
  clear hrow hip hb1
  go_wp2_with fail
  refine (count_any w1 _ n cp p HI1.out.1 HI1.out.2 (by omega)).mono ?_
  rintro e w2 ⟨rfl, hb2⟩
  have HX2 : Hid (Ext w w2) := Ext.trans HX1.out hb2
  obtain ⟨all, hall⟩ : ∃ t, cntP n p = t := ⟨_, rfl⟩
  rw [hall]
  have HALL := Lib.hid hall
  have hall60 : all ≤ 60 := by rw [← hall]; exact Nat.le_trans (PD.cnt_le _ _) hn
  clear HI1 HX1 hb2 hall
  go_wp2
  go_loopw [6, 7] (fun v6 v7 wr => ∃ (a : Nat) (d : List Int), a ≤ n ∧ d.length ≤ a ∧ v7 = .int .i64 a ∧ Hid (GrI w d v6 wr ∧ d = jtsL l a)) (fun _ v7 _ => n - (intOf v7).toNat)
  case atStart => exact ⟨0, [], Nat.zero_le _, Nat.le_refl _, rfl, GrI.nil HX2.out, by simp [jtsL]⟩
  case round =>
    obtain ⟨a, d, ha, hd, rfl, hR⟩ := hrel
    rename_i u6
    by_cases hlt : a < n
    · have ha0 : (0 : Int) ≤ (a : Int) := by omega
      have ha1 : (a : Int) < (n : Int) := by omega
      obtain ⟨wo, rfl⟩ : ∃ wo : World, wo = wr := ⟨_, rfl⟩
      have HG := Lib.hid hR.out
      have HJC : Hid (∀ q, IsParts n (prs (l.filter (jnR a))) q → (all + 1 < cntP n q ↔ DF.Jt l a)) := fun q hq => by
        rw [← HALL.out]
        exact DF.joint_count (prs_iff (inn_fine HOK.out)) (prs_iff (inn_fine fun z hz => HOK.out z (List.mem_filter.1 hz).1)) HPP.out hq (fun x y => jnR_no x y) hlt
          (fun u w => by rcases w with w | w <;> (have := HOK.out _ w; simp only at this; omega))
          (fun u v w => by rcases w with w | w <;> (have := HOK.out _ w; simp only at this; omega))
      clear hR
      go_wp2
      go_loopw [8, 9] (fun v8 v9 wr => ∃ (j : Nat) (r : List AK.Ed), j ≤ m ∧ r.length ≤ j ∧ v9 = .int .i64 j ∧ Hid (GrE wo r v8 wr ∧ r = (l.take j).filter (jnR a))) (fun _ v9 _ => m - (intOf v9).toNat)
      case atStart => exact ⟨0, [], Nat.zero_le _, Nat.le_refl _, rfl, GrE.nil (Ext.refl _), by simp⟩
      case round =>
        obtain ⟨j, r, hj, hr, rfl, hR⟩ := hrel
        rename_i u8
        by_cases hjl : j < m
        · have hj0 : (0 : Int) ≤ (j : Int) := by omega
          have hj1 : (j : Int) < (m : Int) := by omega
          obtain ⟨bl, off, rfl, _, ⟨x1, x2⟩, hx, e1, e2⟩ := eds_at (H.out.ext (Ext.trans HG.out.1.ext hR.out.1.ext)) (show j < l.length by rw [HL.out]; exact hjl)
          simp only at e1 e2
          have HTF := Lib.hid (take_filter (P := jnR a) hx)
          have HGE := Lib.hid hR.out
          clear hx hR
          by_cases q1 : x1 = (a : Int)
          · have t1 : (x1 != (a : Int)) = false := by simp [q1]
            have HD : Hid (r = (l.take (j + 1)).filter (jnR a)) := by
              rw [Hid, HTF.out, if_neg (by simp [jnR, q1]), ← HGE.out.2, List.append_nil]
            clear q1
            go_wp2
            go_roundw
            case rel => exact ⟨j + 1, r, by omega, by omega, by go_num, HGE.out.1, HD.out⟩
            case measure => simp [intOf]; omega
          · have t1 : (x1 != (a : Int)) = true := by simpa using q1
            by_cases q2 : x2 = (a : Int)
            · have t2 : (x2 != (a : Int)) = false := by simp [q2]
              have HD : Hid (r = (l.take (j + 1)).filter (jnR a)) := by
                rw [Hid, HTF.out, if_neg (by simp [jnR, q2]), ← HGE.out.2, List.append_nil]
              clear q1 q2
              go_wp2
              go_roundw
              case rel => exact ⟨j + 1, r, by omega, by omega, by go_num, HGE.out.1, HD.out⟩
              case measure => simp [intOf]; omega
            · have t2 : (x2 != (a : Int)) = true := by simpa using q2
              have HD : Hid (r ++ [(x1, x2)] = (l.take (j + 1)).filter (jnR a)) := by
                rw [Hid, HTF.out, if_pos (by simp [jnR, q1, q2]), ← HGE.out.2]
              clear q1 q2
              go_wp2_with (at_builtin; refine wpList_pushS _ rfl (.tmp 41) (.tmp 46) 22 rfl 63 _ 2 16 Tryd.underlying22 infoEdge rfl (by decide) _ _ _ rfl (HGE.out.1.moved (Ext.alloc _ _)).row ⟨by omega, by omega⟩ (edC (x1, x2)) _ rfl rfl (news_cells rfl _ _) (by simp [edC, Value.oneCell']) ?_; intro g6 c6 w6 ho6 hc6 hat6 _; have HZ := Lib.hid ((HGE.out.1.moved (Ext.alloc _ _)).push ho6 hc6 hat6); clear ho6 hc6 hat6)
              go_roundw
              case rel => exact ⟨j + 1, _, by omega, by rw [snoc_len']; omega, by go_num, HZ.out, HD.out⟩
              case measure => simp [intOf]; omega
        · obtain rfl : m = j := by omega
          obtain ⟨hr1, hr2⟩ := hR.out
          obtain ⟨A3, c3, rfl, he3, _, _⟩ := hr1.eds
          rw [List.take_of_length_le (by rw [HL.out]; exact Nat.le_refl _)] at hr2
          have HX3 := Lib.hid hr1.ext
          have HE3 := Lib.hid he3
          have HI3 : Hid (Inn n r) := inn_fine fun z hz => HOK.out z (List.mem_filter.1 (hr2 ▸ hz)).1
          rw [← hr2] at HJC
          obtain ⟨lr, hlr⟩ : ∃ t, r.length = t := ⟨_, rfl⟩
          rw [hlr] at hr ⊢
          have HLR := Lib.hid hlr
          clear hr1 he3 hR hr2 hlr
          go_wp2_with fail
          refine (parts_any _ A3 n lr c3 r HLR.out hn0 (by omega) (by omega) HE3.out HI3.out).mono ?_
          rintro e w4 ⟨q, gq, cq, rfl, hrow, hiq, hb4, _⟩
          have HI4 := Lib.hid (natv_ints hrow)
          have HX4 : Hid (Ext wo w4) := Ext.trans HX3.out hb4
          have hjc := HJC.out q hiq
          clear hrow hiq hb4 HE3
          go_wp2_with fail
          refine (count_any w4 _ n cq q HI4.out.1 HI4.out.2 (by omega)).mono ?_
          rintro e w5 ⟨rfl, hb5⟩
          have HX5 : Hid (Ext wo w5) := Ext.trans HX4.out hb5
          have HG5 := Lib.hid (HG.out.1.moved HX5.out)
          have hcq : cntP n q ≤ 60 := Nat.le_trans (PD.cnt_le _ _) hn
          obtain ⟨cn, hcn⟩ : ∃ t, cntP n q = t := ⟨_, rfl⟩
          rw [hcn] at hjc hcq ⊢
          clear hb5 hcn HI4 HX4 HX3
          by_cases hJ : DF.Jt l a
          · have h1 : (all : Int) < (cn : Int) - 1 := by have := hjc.2 hJ; omega
            have HD : Hid (d ++ [(a : Int)] = jtsL l (a + 1)) := by rw [Hid, jtsL_succ, if_pos (jtP_iff.2 hJ), ← HG.out.2]
            clear hjc hJ
            go_wp2_with (at_builtin; refine wpList_push _ rfl (.tmp 55) (.tmp 57) 53 rfl 3 (.int .i64 0) 8 Tryd.underlying53 infoI rfl _ _ _ rfl (HG5.out.moved (Ext.alloc _ _)).row ⟨by omega, by omega⟩ (.int .i64 (a : Int)) _ rfl (cell_new1 rfl _ _) rfl ?_; intro g6 c6 w6 ho6 hc6 hat6 _; have HZ := Lib.hid ((HG5.out.moved (Ext.alloc _ _)).push ho6 hc6 hat6); clear ho6 hc6 hat6)
            go_roundw
            case rel => exact ⟨a + 1, _, by omega, by rw [snoc_len']; omega, by go_num, HZ.out, HD.out⟩
            case measure => simp [intOf]; omega
          · have h1 : ¬ (all : Int) < (cn : Int) - 1 := by have := (not_congr hjc).2 hJ; omega
            have HD : Hid (d = jtsL l (a + 1)) := by rw [Hid, jtsL_succ, if_neg (fun z => hJ (jtP_iff.1 z)), ← HG.out.2, List.append_nil]
            clear hjc hJ
            go_wp2
            go_roundw
            case rel => exact ⟨a + 1, d, by omega, by omega, by go_num, HG5.out, HD.out⟩
            case measure => simp [intOf]; omega
    · obtain rfl : n = a := by omega
      have HZ : Hid (RjPost w n l (.returned u6) wr) := by
        obtain ⟨A', c', rfl, h1, _, _⟩ := hR.out.1.ints
        exact ⟨A', c', d, rfl, h1, by omega, hR.out.1.ext, by rw [hR.out.2]; exact jtsL_of n l⟩
      clear hR
      go_wp2
      go_ret
      exact HZ.out
end Go.Proofs.YtakjakglkfhaaaaDoor
