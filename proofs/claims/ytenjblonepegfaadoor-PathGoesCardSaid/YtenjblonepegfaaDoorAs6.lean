/-
  Walk of asks.Answers. Condition: the events lie in memory as 'EvsAt' says.
-/
import Derived.Test.YtenjblonepegfaaDoorAs5
namespace Go.Proofs.YtenjblonepegfaaDoor
open Go Go.RowKit
set_option linter.unusedVariables false

/-- What Answers answers where something is wrong, and where nothing is. -/
def AnsNo (w : World) (n : Int) (l : List AK.Ev) (x : Int) (e : Ending) (w' : World) : Prop := e = .returned (.tuple #[.slice none 0 0, aerrV x]) ∧ Below w.heap.size w w'
def AnsYes (w : World) (l : List AK.Ev) (e : Ending) (w' : World) : Prop :=
  ∃ A c, e = .returned (.tuple #[.slice A (AK.answers l).length c, .nilIface]) ∧ w'.ownsRow 0 4 1 (.slice A (AK.answers l).length c) (AK.answers l).length ((AK.answers l).map Value.bool) ∧ Below w.heap.size w w' ∧ ∀ j, (Value.slice A (AK.answers l).length c).ownBlock = some j → w.heap.size ≤ j
set_option maxHeartbeats 1000000 in
theorem answers_no (w : World) (n : Int) (A : Option Addr) (len c : Nat) (l : List AK.Ev) (hl : l.length = len) (hlm : len ≤ 9223372036854775807) (h : EvsAt w A l) (x : Int) (hx : (AK.chk n l).2 = some x) :
    Calls Tryd.prog 36 #[.int .i64 n, .slice A len c] w (AnsNo w n l x) := by
  have H := Lib.hid h
  have HL := Lib.hid hl
  have HX := Lib.hid hx
  clear h hl hx
  go_enter Tryd.func36, Tryd.ntmps36
  go_wp2_with fail
  refine (chk_any _ n A len c l HL.out hlm H.out).mono ?_
  rintro e w2 ⟨rfl, hb⟩
  rw [HX.out, show oErr (some x) = aerrV x from rfl]
  go_wp2
  go_ret2
  exact ⟨rfl, hb⟩
theorem pr_in {n : Nat} {l : List AK.Ev} (h : AK.Good (n : Int) l) : ∀ x ∈ AK.lives l, (0 ≤ x.ed.1 ∧ x.ed.1 < n ∧ 0 ≤ x.ed.2 ∧ x.ed.2 < n) ∧ x.fr ≤ 120 ∧ x.til ≤ 120 := by
  intro x hx
  obtain ⟨j, hj⟩ := List.mem_iff_getElem?.1 hx
  obtain ⟨h1, h2, h3, e, he, _, hed⟩ := (AK.lives_ok h).each j x hj
  have hb := AK.good_in (h.2.2.2 _ e he)
  have h4 := h.2.2.1
  rw [hed]
  refine ⟨?_, by omega, by omega⟩
  unfold AK.Ev.ed AK.ek
  simp only
  omega
set_option maxHeartbeats 2000000 in
set_option maxRecDepth 100000 in
theorem answers_yes (w : World) (n : Int) (A : Option Addr) (len c : Nat) (l : List AK.Ev) (hl : l.length = len) (h : EvsAt w A l) (hg : AK.Good n l) :
    Calls Tryd.prog 36 #[.int .i64 n, .slice A len c] w (AnsYes w l) := by
  obtain ⟨n, rfl⟩ := Int.eq_ofNat_of_zero_le (show 0 ≤ n by have := hg.1; omega)
  have hn1 : 0 < n := by have := hg.1; omega
  have hn2 : n ≤ 60 := by have := hg.2.1; omega
  have hlm : len ≤ 120 := by have := hg.2.2.1; omega
  have H := Lib.hid h
  have HL := Lib.hid hl
  have HG := Lib.hid hg
  clear h hl hg
  go_enter Tryd.func36, Tryd.ntmps36
  go_wp2_with fail
  refine (chk_any _ n A len c l HL.out (by omega) H.out).mono ?_
  rintro e w2 ⟨rfl, hb2⟩
  have HB2 := Lib.hid hb2
  rw [HG.out.fst, show oErr none = .nilIface from rfl]
  clear hb2
  go_wp2_with fail
  refine (new_yes _ n hn1 hn2).mono ?_
  rintro e w3 ⟨u, rfl, hu, hb3, hun⟩
  have HU := Lib.hid hu
  have HB3 := Lib.hid hb3
  have HUN := Lib.hid hun
  clear hu hb3 hun
  go_wp2_with fail
  refine (lives_any _ n A len c l HL.out ((((H.out.ext HB2.out).ext HB3.out).ext ((Below.refl _ _).alloc (Nat.le_refl _) _))) HG.out).mono ?_
  rintro e w4 ⟨LA, lc, rfl, hlr, hb4, hln⟩
  have hsz3 := HB3.out.size
  have hsz2 := HB2.out.size
  have hS : SAt w w3.heap.size u.g n A len c w4 u (.slice none 0 0) [] [] := by
    have hbb : Below w3.heap.size w3 w4 := ((Below.refl _ _).alloc (Nat.le_refl _) _).trans (Below.mono hb4 (by simp))
    refine ⟨HU.out.new hbb, rfl, World.ownsRow_nil _ _ _ _, ?_, (HB2.out.trans (Below.mono HB3.out hsz2)).trans (Below.mono hbb (by omega)), fun k hk => by have := HUN.out k hk; omega, by simp [Value.ownBlock], by omega⟩
    exact (Blk.new w3 _ _).chg (Chg.of_below hb4) (by simp)
  have HS := Lib.hid hS
  have HLR := Lib.hid hlr
  have hll : (AK.lives l).length ≤ 120 := by have := (AK.lives_ok HG.out).cnt; have := HL.out; unfold AK.lives; omega
  clear hS hlr hb4 hln
  go_wp2_with fail
  refine (solve_any w w3.heap.size u.g n A len c l HL.out H.out HG.out (len + 1) 0 len w4 u (.slice none 0 0) [] [] LA (AK.lives l).length lc (AK.lives l) [] (by omega) (by omega) (Nat.le_refl _) (Nat.le_refl _) rfl hll HS.out HLR.out (pr_in HG.out) UF.tells_nil (by have := AK.Fits.start l; rwa [HL.out] at this)).mono ?_
  rintro e w5 ⟨u5, ov5, rfl, hs5, hv5⟩
  have he : [] ++ AK.asked l 0 (len - 0) = AK.answers l := by rw [← HL.out]; rfl
  rw [he] at hs5
  obtain ⟨oA, oc, hov, _⟩ := own_slice hs5.row
  subst hov
  have hc2 : w5.cell? ⟨w3.heap.size, 2, none⟩ = some (.slice oA (AK.answers l).length oc) := hs5.blk.cell 2
  have HS5 := Lib.hid hs5
  clear hs5 hv5 he
  go_wp2
  go_ret2
  exact ⟨oA, oc, rfl, HS5.out.row, HS5.out.bel, HS5.out.ob⟩
end Go.Proofs.YtenjblonepegfaaDoor
