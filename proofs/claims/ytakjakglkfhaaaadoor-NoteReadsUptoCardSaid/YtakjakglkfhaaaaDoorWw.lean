/-
  Walk of bridge.walked. Conditions: the edges lie in memory as 'EdsAt' says, their nodes are nodes.
-/
import Derived.Test.YtakjakglkfhaaaaDoorWd
namespace Go.Proofs.YtakjakglkfhaaaaDoor
open Go Go.RowKit
set_option linter.unusedVariables false

theorem fine_loop {n : Nat} {l : List AK.Ed} (hf : Fine n l) (u : Nat) : ¬ PD.adj l u u := by
  intro h
  have : ∀ x ∈ l, 0 ≤ x.1 ∧ x.1 < x.2 ∧ x.2 < n := fun x hx => by
    obtain ⟨i, hi⟩ := List.getElem?_of_mem hx
    exact hf.2 i x hi
  rcases h with h | h <;> (have := this _ h; simp only at this; omega)
theorem fine_in {n : Nat} {l : List AK.Ed} (hf : Fine n l) (u v : Nat) (h : PD.adj l u v) : v < n := by
  have : ∀ x ∈ l, 0 ≤ x.1 ∧ x.1 < x.2 ∧ x.2 < n := fun x hx => by
    obtain ⟨i, hi⟩ := List.getElem?_of_mem hx
    exact hf.2 i x hi
  rcases h with h | h <;> (have := this _ h; simp only at this; omega)
/-- What walked leaves. -/
def WdPost (w : World) (n : Nat) (l : List AK.Ed) (e : Ending) (w' : World) : Prop := ∃ (k : Wkr) (vE vJ : Value) (w0 : World) (N : Nat → List Nat), e = .returned (.pointer (some ⟨k.W, 0, none⟩)) ∧ DF.Bes n l N ∧ WkAt w0 n k vE vJ (DF.walked N n n) w' ∧ Ext w w0 ∧ (∀ j, k.S j → w.heap.size ≤ j)
set_option maxHeartbeats 4000000 in
set_option maxRecDepth 100000 in
theorem walked_any (w : World) (n : Nat) (A : Option Addr) (m c : Nat) (l : List AK.Ed) (hl : l.length = m) (h : EdsAt w A l) (hf : Fine n l) (hn0 : 0 < n) (hn : n ≤ 60) :
    Calls Tryd.prog 45 #[.int .i64 (n : Int), .slice A m c] w (WdPost w n l) := by
  have H := Lib.hid h
  have HL := Lib.hid hl
  have HF := Lib.hid hf
  clear h hl hf
  go_enter Tryd.func45, Tryd.ntmps45
  go_upto_region 1 with fail
  refine wd1_any H HL HF hn0 hn _ _ _ ?_
  intro v7 v8 v9 v10 v11 v12 v13 v14 v15 v16 v17 w0 w1 kk N G cb B hst
  have HST := Lib.hid hst
  have HW0 : Hid (∃ vE vJ, WkAt w0 n kk vE vJ (DF.walked N n 0) w1) := ⟨_, _, hst.at_⟩
  clear hst
  go_wp2
  go_loopw [19] (fun v wr => ∃ i : Nat, i ≤ n ∧ v = .int .i64 i ∧ Hid (∃ vE vJ, WkAt w0 n kk vE vJ (DF.walked N n i) wr)) (fun v _ => n - (intOf v).toNat)
  case atStart => exact ⟨0, by omega, rfl, HW0.out⟩
  case round =>
    obtain ⟨i, hi, rfl, hR⟩ := hrel
    clear HW0
    by_cases hin : i < n
    · have hin' : (i : Int) < (n : Int) := by omega
      have hi0 : (0 : Int) ≤ (i : Int) := by omega
      obtain ⟨vE, vJ, hW⟩ := hR.out
      have hal := DF.walked_all (l := l) HST.out.of_ (fine_loop HF.out) (fine_in HF.out) i (by omega)
      have hbd := DF.walked_bd (l := l) HST.out.of_ (fine_loop HF.out) (fine_in HF.out) i (by omega)
      obtain ⟨s, hs⟩ : ∃ s, s = DF.walked N n i := ⟨_, rfl⟩
      have hs1 : DF.walked N n (i + 1) = if PD.g s.wh i = 0 then DF.visit N i n i i s else s := by rw [hs]; rfl
      rw [← hs] at hal hbd hW
      have c1 : wr.cell? ⟨kk.W, 1, none⟩ = some (.slice (some ⟨kk.gw, 0, none⟩) n n) := hW.blk.cell 1
      obtain ⟨r1, g1⟩ := int_cell hW.wh hal.wl hin
      by_cases h0 : PD.g s.wh i = 0
      · have h0' : (PD.g s.wh i == 0) = true := by simpa using h0
        have hv : ¬ DF.V s i := by unfold DF.V; omega
        have HC := Lib.hid (walk_any w0 n G cb l N kk HST.out.vB HST.out.bes B HST.out.inn HST.out.S HST.out.of_ (fine_loop HF.out) (fine_in HF.out) hn i n i i 0 0 s vE vJ wr (hal.pre hin hv) (PD.cnt_le _ _) hbd hW)
        have HS1 : Hid (DF.walked N n (i + 1) = DF.visit N i n i i s) := by rw [Hid, hs1, if_pos h0]
        clear hal hbd hW hs hs1 hv hR
        go_wp2_with fail
        refine HC.out.mono ?_
        rintro e w2 ⟨rfl, vE2, vJ2, hw2⟩
        have HN : Hid (∃ vE vJ, WkAt w0 n kk vE vJ (DF.walked N n (i + 1)) w2) := ⟨_, _, by rw [HS1.out]; exact hw2⟩
        clear hw2 HC HS1
        go_wp2
        go_roundw
        case rel => exact ⟨i + 1, by omega, by go_num, HN.out⟩
        case measure => simp [intOf]; omega
      · have h0' : (PD.g s.wh i == 0) = false := by simpa using h0
        have HN : Hid (∃ vE vJ, WkAt w0 n kk vE vJ (DF.walked N n (i + 1)) wr) := ⟨_, _, by rw [hs1, if_neg h0]; exact hW⟩
        clear hal hbd hW hs hs1 hR
        go_wp2
        go_roundw
        case rel => exact ⟨i + 1, by omega, by go_num, HN.out⟩
        case measure => simp [intOf]; omega
    · have e : i = n := by omega
      subst e
      have HP : Hid (WdPost w i l (.returned (.pointer (some ⟨kk.W, 0, none⟩))) wr) := by
        obtain ⟨vE, vJ, hW⟩ := hR.out
        exact ⟨kk, vE, vJ, w0, N, rfl, HST.out.of_, hW, HST.out.ext, HST.out.sS⟩
      clear hR HST
      go_wp2
      go_ret
      exact HP.out
end Go.Proofs.YtakjakglkfhaaaaDoor
