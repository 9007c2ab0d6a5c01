/-
  Walk of asks.Answers. Condition: the events lie in memory as 'EvsAt' says.
  Events that came in; rows of events; lists of truths compared; a node that there is. No conditions beyond what each says.
-/
import Derived.Test.YtlcnoihmhaaekaaAgPk48
import Derived.Test.YtlcnoihmhaaekaaAgPk17
import Derived.Laws.AppendOwnNone
namespace Go.Proofs.Ytlcnoihmhaaekaa
open Go Go.RowKit
set_option linter.unusedVariables false

/-- What Answers answers where something is wrong, and where nothing is. -/
def AnsNo (w : World) (n : Int) (l : List AK.Ev) (x : Int) (e : Ending) (w' : World) : Prop := e = .returned (.tuple #[.slice none 0 0, aerrV x]) ∧ Below w.heap.size w w'
def AnsYes (w : World) (l : List AK.Ev) (e : Ending) (w' : World) : Prop :=
  ∃ A c, e = .returned (.tuple #[.slice A (AK.answers l).length c, .nilIface]) ∧ w'.ownsRow 0 4 1 (.slice A (AK.answers l).length c) (AK.answers l).length ((AK.answers l).map Value.bool) ∧ Below w.heap.size w w' ∧ ∀ j, (Value.slice A (AK.answers l).length c).ownBlock = some j → w.heap.size ≤ j
set_option maxHeartbeats 1000000 in
theorem answers_no (w : World) (n : Int) (A : Option Addr) (len c : Nat) (l : List AK.Ev) (hl : l.length = len) (hlm : len ≤ 9223372036854775807) (h : EvsAt w A l) (x : Int) (hx : (AK.chk n l).2 = some x) :
    Calls Try.prog 28 #[.int .i64 n, .slice A len c] w (AnsNo w n l x) := by
  have H := Lib.hid h
  have HL := Lib.hid hl
  have HX := Lib.hid hx
  clear h hl hx
  go_enter Try.func28, Try.ntmps28
  go_wp2_with fail
  refine (chk_any _ n A len c l HL.out hlm H.out).mono ?_
  rintro e w2 ⟨rfl, hb⟩
  rw [HX.out, show oErr (some x) = aerrV x from rfl]
  go_wp2
  go_ret2
  exact ⟨rfl, hb⟩
theorem pr_in {n : Nat} {l : List AK.Ev} (h : AK.Good (n : Int) l) : ∀ x ∈ AK.lives l, (0 ≤ x.ed.1 ∧ x.ed.1 < n ∧ 0 ≤ x.ed.2 ∧ x.ed.2 < n) ∧ x.fr ≤ 120 ∧ x.til ≤ 120 := by
  intro x hx
  obtain ⟨j, hj⟩ := List.mem_iff_getElem?.1 hx
  obtain ⟨h1, h2, h3, e, he, _, hed⟩ := (AK.lives_ok h).each j x hj
  have hb := AK.good_in (h.2.2.2 _ e he)
  have h4 := h.2.2.1
  rw [hed]
  refine ⟨?_, by omega, by omega⟩
  unfold AK.Ev.ed AK.ek
  simp only
  omega
set_option maxHeartbeats 2000000 in
set_option maxRecDepth 100000 in
theorem answers_yes (w : World) (n : Int) (A : Option Addr) (len c : Nat) (l : List AK.Ev) (hl : l.length = len) (h : EvsAt w A l) (hg : AK.Good n l) :
    Calls Try.prog 28 #[.int .i64 n, .slice A len c] w (AnsYes w l) := by
  obtain ⟨n, rfl⟩ := Int.eq_ofNat_of_zero_le (show 0 ≤ n by have := hg.1; omega)
  have hn1 : 0 < n := by have := hg.1; omega
  have hn2 : n ≤ 60 := by have := hg.2.1; omega
  have hlm : len ≤ 120 := by have := hg.2.2.1; omega
  have H := Lib.hid h
  have HL := Lib.hid hl
  have HG := Lib.hid hg
  clear h hl hg
  go_enter Try.func28, Try.ntmps28
  go_wp2_with fail
  refine (chk_any _ n A len c l HL.out (by omega) H.out).mono ?_
  rintro e w2 ⟨rfl, hb2⟩
  have HB2 := Lib.hid hb2
  rw [HG.out.fst, show oErr none = .nilIface from rfl]
  clear hb2
  go_wp2_with fail
  refine (new_yes _ n hn1 hn2).mono ?_
  rintro e w3 ⟨u, rfl, hu, hb3, hun⟩
  have HU := Lib.hid hu
  have HB3 := Lib.hid hb3
  have HUN := Lib.hid hun
  clear hu hb3 hun
  go_wp2_with fail
  refine (lives_any _ n A len c l HL.out ((((H.out.ext HB2.out).ext HB3.out).ext ((Below.refl _ _).alloc (Nat.le_refl _) _))) HG.out).mono ?_
  rintro e w4 ⟨LA, lc, rfl, hlr, hb4, hln⟩
  have hsz3 := HB3.out.size
  have hsz2 := HB2.out.size
  have hS : SAt w w3.heap.size u.g n A len c w4 u (.slice none 0 0) [] [] := by
    have hbb : Below w3.heap.size w3 w4 := ((Below.refl _ _).alloc (Nat.le_refl _) _).trans (Below.mono hb4 (by simp))
    refine ⟨HU.out.new hbb, rfl, World.ownsRow_nil _ _ _ _, ?_, (HB2.out.trans (Below.mono HB3.out hsz2)).trans (Below.mono hbb (by omega)), fun k hk => by have := HUN.out k hk; omega, by simp [Value.ownBlock], by omega⟩
    exact (Blk.new w3 _ _).chg (Chg.of_below hb4) (by simp)
  have HS := Lib.hid hS
  have HLR := Lib.hid hlr
  have hll : (AK.lives l).length ≤ 120 := by have := (AK.lives_ok HG.out).cnt; have := HL.out; unfold AK.lives; omega
  clear hS hlr hb4 hln
  go_wp2_with fail
  refine (solve_any w w3.heap.size u.g n A len c l HL.out H.out HG.out (len + 1) 0 len w4 u (.slice none 0 0) [] [] LA (AK.lives l).length lc (AK.lives l) [] (by omega) (by omega) (Nat.le_refl _) (Nat.le_refl _) rfl hll HS.out HLR.out (pr_in HG.out) UF.tells_nil (by have := AK.Fits.start l; rwa [HL.out] at this)).mono ?_
  rintro e w5 ⟨u5, ov5, rfl, hs5, hv5⟩
  have he : [] ++ AK.asked l 0 (len - 0) = AK.answers l := by rw [← HL.out]; rfl
  rw [he] at hs5
  obtain ⟨oA, oc, hov, _⟩ := own_slice hs5.row
  subst hov
  have hc2 : w5.cell? ⟨w3.heap.size, 2, none⟩ = some (.slice oA (AK.answers l).length oc) := hs5.blk.cell 2
  have HS5 := Lib.hid hs5
  clear hs5 hv5 he
  go_wp2
  go_ret2
  exact ⟨oA, oc, rfl, HS5.out.row, HS5.out.bel, HS5.out.ob⟩
end Go.Proofs.Ytlcnoihmhaaekaa
namespace Go.Proofs.Ytlcnoihmhaaekaa
open Go Go.RowKit Go.ChangeShapes Go.WideShapes
set_option linter.unusedVariables false

theorem open_none {H : Type} {enc : TypeId × Value → H} {P : Program} {w : World} {spare : Nat → Bool} {held : Bool} {t e : TypeId} {fuel : Nat} {a : Option Addr} {len cap : Nat} {x : DataW H × List MemPlace} (ht : P.underlying t = some (.slice e))
    (h : DataW.trod enc P w 0 spare held fuel t [.slice a len cap] = some x) : a = none → len = 0 ∧ cap = 0 := by
  rcases Deep.open_slice ht h with ⟨hc, _⟩ | ⟨ad, len', cap', m, n, D, Pl, hc, _⟩
  · simp at hc; obtain ⟨rfl, rfl, rfl⟩ := hc; exact fun _ => ⟨rfl, rfl⟩
  · simp at hc; obtain ⟨rfl, _, _⟩ := hc; intro h; cases h
theorem open_evs {H : Type} {enc : TypeId × Value → H} {w : World} {spare : Nat → Bool} {held : Bool} {a : Option Addr} {len cap : Nat} {d : DataW H} {p : List MemPlace} (h : DataW.Trod enc Try.prog w 0 spare held 55 (.slice a len cap) d p) :
    ∃ l : List AK.Ev, EvsAt w a l ∧ l.length = len ∧ len ≤ cap ∧ cap ≤ maxLen ∧ (a = none → len = 0 ∧ cap = 0) := by
  obtain ⟨fuel, hf⟩ := h
  have hno := open_none Try.underlying55 (show DataW.trod enc Try.prog w 0 spare held fuel 55 [.slice a len cap] = _ from hf)
  obtain ⟨hl, hm, h0 | ⟨b, off, rfl, hlt, n, hx⟩⟩ := open_structs Try.underlying55 Try.underlying60 (show Try.prog.cellsOf 60 = 3 by kernel_rfl) (by decide) (show DataW.trod enc Try.prog w 0 spare held fuel 55 [.slice a len cap] = _ from hf)
  · exact ⟨[], .inl rfl, h0.symm, hl, hm, hno⟩
  · have each : ∀ i, i < len → ∃ q : AK.Ev, EvAt w b (off + i * 3) q := by
      intro i hi
      obtain ⟨cs, h1, h2, h3⟩ := hx i hi
      obtain ⟨c0, c1, c2, rfl⟩ := list3 h1
      obtain ⟨y0, g0⟩ := h3 0 _ rfl
      obtain ⟨y1, g1⟩ := h3 1 _ rfl
      obtain ⟨y2, g2⟩ := h3 2 _ rfl
      simp [cellsInt] at g0 g1 g2
      obtain ⟨x0, e0, _⟩ := DataW.trod_int Try.underlying3 g0
      obtain ⟨x1, e1, _⟩ := DataW.trod_int Try.underlying3 g1
      obtain ⟨x2, e2, _⟩ := DataW.trod_int Try.underlying3 g2
      simp at e0 e1 e2
      subst e0; subst e1; subst e2
      exact ⟨⟨x0, x1, x2⟩, h2 0 _ rfl, h2 1 _ rfl, h2 2 _ rfl⟩
    obtain ⟨s, hs⟩ := Deep.choose_lt each
    refine ⟨(List.range len).map s, .inr ⟨b, off, rfl, hlt, fun i e he => ?_⟩, by simp, hl, hm, hno⟩
    obtain ⟨hi, rfl⟩ := List.getElem?_eq_some_iff.1 he
    simp at hi ⊢
    exact hs i hi

def evV (e : AK.Ev) : List Value := [.int .i64 e.w, .int .i64 e.a, .int .i64 e.b]
theorem evV_len (e : AK.Ev) : (evV e).length = 3 := rfl
theorem infoEvent : (Try.prog.info? 60).map (fun i => (i.zero, i.size, i.bytes)) = some (some (.agg #[.int .i64 0, .int .i64 0, .int .i64 0]), 3, 24) := by kernel_rfl
def ERow (w : World) (v : Value) (n : Nat) (l : List AK.Ev) : Prop := w.ownsRow 0 60 3 v n (rowsOf evV l)
theorem ERow.evs {w : World} {A : Option Addr} {n c : Nat} {l : List AK.Ev} (h : ERow w (.slice A n c) n l) (hl : l.length = n) : EvsAt w A l := by
  rcases Nat.eq_zero_or_pos n with h0 | h0
  · exact .inl (List.eq_nil_of_length_eq_zero (by omega))
  obtain ⟨g, cap, hv, _, _⟩ := own_form h h0
  simp only [Value.slice.injEq, true_and] at hv
  obtain ⟨rfl, rfl⟩ := hv
  refine .inr ⟨g, 0, rfl, own_lt h (by simp [Value.ownBlock]), fun i e he => ?_⟩
  have hi : i < n := by have := (List.getElem?_eq_some_iff.1 he).1; omega
  have key : ∀ j v, (evV e)[j]? = some v → w.cell? ⟨g, i * 3 + j, none⟩ = some v := fun j v hv => by
    have hj : j < 3 := (List.getElem?_eq_some_iff.1 hv).1
    rw [World.ownsRow.cellAt h (i * 3 + j) (by omega)]
    exact rowsOf_get (f := evV) (S := 3) (fun a _ => evV_len a) he hv
  refine ⟨?_, ?_, ?_⟩
  · have := key 0 _ rfl; simpa using this
  · have := key 1 _ rfl; simpa [Nat.add_assoc] using this
  · have := key 2 _ rfl; simpa [Nat.add_assoc] using this
theorem EvsAt.take {w : World} {A : Option Addr} {l : List AK.Ev} (h : EvsAt w A l) (k : Nat) : EvsAt w A (l.take k) := by
  rcases h with h | ⟨b, off, rfl, hl, he⟩
  · exact .inl (by rw [h]; simp)
  · refine .inr ⟨b, off, rfl, hl, fun i e hi => he i e ?_⟩
    rw [List.getElem?_take] at hi
    split at hi
    · exact hi
    · cases hi
/-- The cells of events from a place on. -/
theorem EvsAt.cells {w : World} {b off : Nat} {l : List AK.Ev} (he : ∀ (i : Nat) (e : AK.Ev), l[i]? = some e → EvAt w b (off + i * 3) e) (k d : Nat) : ∀ j u, (rowsOf evV ((l.drop k).take d))[j]? = some u → w.cell? ((⟨b, off + k * 3, none⟩ : Addr).add j) = some u := by
  intro j u hj
  rw [Addr.add_mid]
  have hlt := (List.getElem?_eq_some_iff.1 hj).1
  rw [rowsOf_len (f := evV) (S := 3) (fun a _ => evV_len a)] at hlt
  have hi : j / 3 < ((l.drop k).take d).length := by omega
  obtain ⟨e, hee⟩ : ∃ e, ((l.drop k).take d)[j / 3]? = some e := ⟨_, List.getElem?_eq_getElem hi⟩
  have hee' : l[k + j / 3]? = some e := by
    rw [List.getElem?_take] at hee
    split at hee
    · rwa [List.getElem?_drop] at hee
    · cases hee
  obtain ⟨h0, h1, h2⟩ := he _ _ hee'
  have hm : j = j / 3 * 3 + j % 3 := by omega
  have key : ∀ v, (evV e)[j % 3]? = some v → u = v := fun v hv => by
    have := rowsOf_get (f := evV) (S := 3) (fun a _ => evV_len a) hee hv
    rw [← hm, hj] at this
    exact Option.some.inj this
  have hr : j % 3 = 0 ∨ j % 3 = 1 ∨ j % 3 = 2 := by omega
  rcases hr with hr | hr | hr
  · rw [key (.int .i64 e.w) (by rw [hr]; rfl), ← h0]; congr 2; omega
  · rw [key (.int .i64 e.a) (by rw [hr]; rfl), ← h1]; congr 2; omega
  · rw [key (.int .i64 e.b) (by rw [hr]; rfl), ← h2]; congr 2; omega
theorem evV_one {l : List AK.Ev} : ∀ u ∈ rowsOf evV l, u.oneCell' = true := by
  intro u hu
  unfold rowsOf at hu
  rw [List.mem_flatMap] at hu
  obtain ⟨e, _, h⟩ := hu
  simp [evV] at h
  rcases h with rfl | rfl | rfl <;> rfl
/-! ### Truths -/
def BoolsAt (w : World) (a : Option Addr) (xs : List Bool) : Prop := xs = [] ∨ ∃ b off, a = some ⟨b, off, none⟩ ∧ b < w.heap.size ∧ ∀ i v, xs[i]? = some v → w.cell? ⟨b, off + i, none⟩ = some (.bool v)
theorem BoolsAt.ext {w w' : World} {a : Option Addr} {xs : List Bool} (h : BoolsAt w a xs) (hb : Below w.heap.size w w') : BoolsAt w' a xs := by
  rcases h with h | ⟨b, off, rfl, hl, hc⟩
  · exact .inl h
  · exact .inr ⟨b, off, rfl, Nat.lt_of_lt_of_le hl hb.size, fun i v hv => (hb.cell (p := ⟨b, off + i, none⟩) hl).trans (hc i v hv)⟩
theorem BoolsAt.of_own {w : World} {base c n : Nat} {A : Option Addr} {e : TypeId} {xs : List Bool} (h : w.ownsRow base e 1 (.slice A n c) n (xs.map Value.bool)) : BoolsAt w A xs ∧ xs.length = n ∧ n ≤ c := by
  have hl : xs.length = n := by have := h.1; simpa using this
  rcases Nat.eq_zero_or_pos n with h0 | h0
  · exact ⟨.inl (List.eq_nil_of_length_eq_zero (by omega)), hl, by omega⟩
  obtain ⟨g, cap, hv, hc, _⟩ := own_form h h0
  simp only [Value.slice.injEq, true_and] at hv
  obtain ⟨rfl, rfl⟩ := hv
  refine ⟨.inr ⟨g, 0, rfl, own_lt h (by simp [Value.ownBlock]), fun i v hv => ?_⟩, hl, hc⟩
  have hi : i < n := by have := (List.getElem?_eq_some_iff.1 hv).1; omega
  rw [Nat.zero_add, World.ownsRow.cellAt h i (by omega), List.getElem?_map, hv]; rfl
theorem BoolsAt.take {w : World} {A : Option Addr} {l : List Bool} (h : BoolsAt w A l) (k : Nat) : BoolsAt w A (l.take k) := by
  rcases h with h | ⟨b, off, rfl, hl, he⟩
  · exact .inl (by rw [h]; simp)
  · refine .inr ⟨b, off, rfl, hl, fun i e hi => he i e ?_⟩
    rw [List.getElem?_take] at hi
    split at hi
    · exact hi
    · cases hi
theorem BoolsAt.drop {w : World} {A : Option Addr} {l : List Bool} (h : BoolsAt w A l) (k : Nat) : BoolsAt w (A.map (·.add k)) (l.drop k) := by
  rcases h with h | ⟨b, off, rfl, hl, he⟩
  · exact .inl (by rw [h]; simp)
  · refine .inr ⟨b, off + k, by simp [Addr.add_mid], hl, fun i e hi => ?_⟩
    rw [List.getElem?_drop] at hi
    have := he _ _ hi
    rwa [← Nat.add_assoc] at this
theorem drop_nil_of {w : World} {A : Option Addr} {l : List Bool} {k : Nat} (h : l.length ≤ k) : BoolsAt w A (l.drop k) := .inl (List.drop_eq_nil_of_le h)
def TruePost (w : World) (r : Bool) (e : Ending) (w' : World) : Prop := e = .returned (.bool r) ∧ Below w.heap.size w w'
def TrueQuiet (w : World) (r : Bool) (e : Ending) (w' : World) : Prop := e = .returned (.bool r) ∧ ∃ m, w' = w.drewN m
theorem BoolsAt.drewN {w : World} {A : Option Addr} {l : List Bool} (h : BoolsAt w A l) (n : Nat) : BoolsAt (w.drewN n) A l := h
set_option maxHeartbeats 1000000 in
theorem bools_quiet (w : World) (A B : Option Addr) (n m c d : Nat) (xs ys : List Bool) (hx : BoolsAt w A xs) (hy : BoolsAt w B ys) (hn : xs.length = n) (hm : ys.length = m) (hnb : n ≤ 9223372036854775807) (hmb : m ≤ 9223372036854775807) (r : Bool) (hr : decide (xs = ys) = r) :
    Calls Try.prog 29 #[.slice A n c, .slice B m d] w (TrueQuiet w r) := by
  have HX := Lib.hid hx
  have HY := Lib.hid hy
  have HN := Lib.hid hn
  have HM := Lib.hid hm
  have HR := Lib.hid hr
  clear hx hy hn hm hr
  by_cases hnm : n = m
  · subst hnm
    go_enter Try.func29, Try.ntmps29
    go_wp2
    go_loopw [5] (fun v wr => ∃ k : Nat, k ≤ n ∧ v = .int .i64 k ∧ xs.take k = ys.take k ∧ Hid (∃ m, wr = w.drewN m)) (fun v _ => n - (intOf v).toNat)
    case atStart => exact ⟨0, Nat.zero_le _, rfl, rfl, 0, rfl⟩
    case round =>
      obtain ⟨k, hk, rfl, ht, HE⟩ := hrel
      have hxw : BoolsAt wr A xs := by obtain ⟨m, h⟩ := HE.out; rw [h]; exact HX.out
      have hyw : BoolsAt wr B ys := by obtain ⟨m, h⟩ := HE.out; rw [h]; exact HY.out
      have HT := Lib.hid ht
      by_cases hlt : k < n
      · rcases hxw with h0 | ⟨b, off, rfl, _, hc⟩
        · have := HN.out; subst h0; simp at this; omega
        rcases hyw with h0 | ⟨b', off', rfl, _, hc'⟩
        · have := HM.out; subst h0; simp at this; omega
        have hkx : k < xs.length := by rw [HN.out]; exact hlt
        have hky : k < ys.length := by rw [HM.out]; exact hlt
        obtain ⟨x, hxx⟩ : ∃ x, xs[k]? = some x := ⟨_, List.getElem?_eq_getElem hkx⟩
        obtain ⟨y, hyy⟩ : ∃ y, ys[k]? = some y := ⟨_, List.getElem?_eq_getElem hky⟩
        have c1 := hc k x hxx
        have c2 := hc' k y hyy
        have HXX := Lib.hid hxx
        have HYY := Lib.hid hyy
        have z0 : (0 : Int) ≤ (k : Int) := by omega
        have z1 : (k : Int) < (n : Int) := by omega
        clear hc hc' hxx hyy ht hkx hky
        by_cases e : x = y
        · subst e
          cases x
          all_goals
            go_wp2
            go_quiet (fail)
            go_wp2
            go_roundw
            case rel => exact ⟨k + 1, by omega, by go_num, by rw [AK.take_next HXX.out, AK.take_next HYY.out, HT.out], by obtain ⟨m, h⟩ := HE.out; exact ⟨_, by rw [h, World.drewN_drewN]⟩⟩
            case measure => simp [intOf]; omega
        · have HEq := Lib.hid e
          clear e
          cases x <;> cases y
          all_goals first
            | exact absurd rfl HEq.out
            | (go_wp2
               go_quiet (fail)
               go_wp2
               go_ret
               refine ⟨ret_bool ?_, by obtain ⟨m, h⟩ := HE.out; exact ⟨_, by rw [h, World.drewN_drewN]⟩⟩
               rw [← HR.out]; symm; rw [decide_eq_false_iff_not]
               intro h
               have := HXX.out
               rw [h, HYY.out] at this
               cases this)
      · clear ht hxw hyw
        go_wp2
        go_ret
        refine ⟨ret_bool ?_, HE.out⟩
        rw [← HR.out]; symm; rw [decide_eq_true_eq]
        have := HT.out
        have h1 := HN.out
        have h2 := HM.out
        rwa [List.take_of_length_le (by omega), List.take_of_length_le (by omega)] at this
  · have e2 : ((n : Int) != (m : Int)) = true := by simp; omega
    have e3 : (n != m) = true := by simp; omega
    have HE : Hid (false = r) := by
      unfold Hid
      rw [← HR.out]; symm; rw [decide_eq_false_iff_not]
      intro h; have := congrArg List.length h; rw [HN.out, HM.out] at this; exact hnm this
    clear hnm
    go_enter Try.func29, Try.ntmps29
    go_wp2
    go_ret
    exact ⟨ret_bool HE.out, 0, rfl⟩
theorem bools_any (w : World) (A B : Option Addr) (n m c d : Nat) (xs ys : List Bool) (hx : BoolsAt w A xs) (hy : BoolsAt w B ys) (hn : xs.length = n) (hm : ys.length = m) (hnb : n ≤ 9223372036854775807) (hmb : m ≤ 9223372036854775807) (r : Bool) (hr : decide (xs = ys) = r) :
    Calls Try.prog 29 #[.slice A n c, .slice B m d] w (TruePost w r) :=
  (bools_quiet w A B n m c d xs ys hx hy hn hm hnb hmb r hr).mono fun e w' ⟨h, k, hk⟩ => ⟨h, by rw [hk]; exact below_drewN' (Below.refl _ _) k⟩
end Go.Proofs.Ytlcnoihmhaaekaa
