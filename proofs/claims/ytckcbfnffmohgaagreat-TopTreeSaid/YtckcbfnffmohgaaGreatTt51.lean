/-
  Walks of path.checked, the references' Node; what edges without a fault are. Conditions: the edges lie in memory as 'EdsAt' says, the nodes as 'IntsAt'.
  What edges and nodes without a fault are. No conditions.
  Walk of path.far. Conditions: the rows of nodes beside lie in memory as 'BesAt' says, and are those of the edges.
-/
import Derived.Test.YtckcbfnffmohgaaGreatTt47
import Derived.Test.YtckcbfnffmohgaaGreatTt48
import Derived.Deep.LoopGhost
namespace Go.Proofs.YtckcbfnffmohgaaGreat
open Go Go.RowKit
set_option linter.unusedVariables false

def badN (n : Int) (x : Int) : Bool := decide (x < 0 ∨ n ≤ x)
/-- What is wrong with edges and nodes. -/
def ckF (n : Int) (l : List AK.Ed) (xs : List Int) : Int := if (edgF n l).2 ≠ 0 then (edgF n l).2 else if xs.any (badN n) then 1 else 0
def ErrPost (w : World) (x : Int) (e : Ending) (w' : World) : Prop := e = .returned (errOf x) ∧ Ext w w'
set_option maxHeartbeats 1000000 in
set_option maxRecDepth 100000 in
theorem checked_any (w : World) (n : Int) (A : Option Addr) (m c : Nat) (l : List AK.Ed) (hl : l.length = m) (hlm : m ≤ 9223372036854775807) (h : EdsAt w A l) (NA : Option Addr) (k kc : Nat) (xs : List Int) (hx : IntsAt w NA xs) (hk : xs.length = k) (hk4 : k ≤ 4) :
    Calls Tryz.prog 37 #[.int .i64 n, .slice A m c, .slice NA k kc] w (ErrPost w (ckF n l xs)) := by
  have H := Lib.hid h
  have HX := Lib.hid hx
  have HK := Lib.hid hk
  have HL := Lib.hid hl
  clear h hx hk hl
  go_enter Tryz.func37, Tryz.ntmps37
  go_wp2_with fail
  refine (check_any w n A m c l HL.out hlm H.out).mono ?_
  rintro e w1 ⟨rfl, hx1⟩
  have HX1 := Lib.hid hx1
  clear hx1
  by_cases h0 : (edgF n l).2 = 0
  · have HC : Hid (ckF n l xs = if xs.any (badN n) then 1 else 0) := by unfold Hid ckF; rw [if_neg (by simpa using h0)]
    rw [h0, errOf_0]
    clear h0
    go_wp2
    have HR0 : Hid (Ext w w1 ∧ ∀ j x, j < 0 → xs[j]? = some x → badN n x = false) := ⟨HX1.out, fun j x hj => by omega⟩
    go_loopw [22] (fun v wr => ∃ i : Nat, i ≤ k ∧ v = .int .i64 i ∧ Hid (Ext w wr ∧ ∀ j x, j < i → xs[j]? = some x → badN n x = false)) (fun v _ => k - (intOf v).toNat)
    case atStart => exact ⟨0, by omega, rfl, HR0.out⟩
    case round =>
      obtain ⟨i, hi, rfl, hR⟩ := hrel
      clear HR0
      by_cases hik : i < k
      · have hik' : (i : Int) < (k : Int) := by omega
        have hi0 : (0 : Int) ≤ (i : Int) := by omega
        obtain ⟨x, hxi⟩ : ∃ x, xs[i]? = some x := ⟨_, List.getElem?_eq_getElem (by rw [HK.out]; exact hik)⟩
        obtain ⟨nb, no, rfl, c0⟩ : ∃ nb no, NA = some ⟨nb, no, none⟩ ∧ wr.cell? ⟨nb, no + i, none⟩ = some (.int .i64 x) := by
          rcases HX.out.ext hR.out.1 with h | ⟨nb, no, h, hlt, hc⟩
          · rw [h] at hxi; simp at hxi
          · exact ⟨nb, no, h, hc i x hxi⟩
        have HXI := Lib.hid hxi
        have HE := Lib.hid hR.out.1
        clear hxi
        by_cases c1 : x < 0
        · have HC2 : Hid (ckF n l xs = 1) := by
            rw [Hid, HC.out, if_pos]
            rw [List.any_eq_true]
            exact ⟨x, List.mem_of_getElem? HXI.out, by simp [badN, c1]⟩
          clear hR HC
          go_wp2
          go_ret
          exact ⟨by rw [HC2.out]; rfl, HE.out⟩
        by_cases c2 : n ≤ x
        · have HC2 : Hid (ckF n l xs = 1) := by
            rw [Hid, HC.out, if_pos]
            rw [List.any_eq_true]
            exact ⟨x, List.mem_of_getElem? HXI.out, by simp [badN, c2]⟩
          clear hR HC
          go_wp2
          go_ret
          exact ⟨by rw [HC2.out]; rfl, HE.out⟩
        have HN : Hid (Ext w wr ∧ ∀ j y, j < i + 1 → xs[j]? = some y → badN n y = false) := ⟨HE.out, fun j y hj hy => by
          by_cases e : j = i
          · subst e; rw [HXI.out] at hy; injection hy with hy; subst hy; simp [badN]; omega
          · exact hR.out.2 j y (by omega) hy⟩
        clear hR
        go_wp2
        go_roundw
        case rel => exact ⟨i + 1, by omega, by go_num, HN.out⟩
        case measure => simp [intOf]; omega
      · have e : i = k := by omega
        have HC2 : Hid (ckF n l xs = 0) := by
          rw [Hid, HC.out, if_neg]
          rw [List.any_eq_true]
          rintro ⟨x, hx, hb⟩
          obtain ⟨j, hj⟩ := List.getElem?_of_mem hx
          have := hR.out.2 j x (by rw [e, ← HK.out]; exact (List.getElem?_eq_some_iff.1 hj).1) hj
          rw [this] at hb; simp at hb
        have HE := Lib.hid hR.out.1
        subst e
        clear hR HC
        go_wp2
        go_ret
        exact ⟨by rw [HC2.out]; rfl, HE.out⟩
  · have HC : Hid (ckF n l xs = (edgF n l).2) := by unfold Hid ckF; rw [if_pos h0]
    rw [errOf_ne h0]
    go_wp2
    go_ret
    exact ⟨by rw [HC.out, errOf_ne h0]; rfl, HX1.out⟩
end Go.Proofs.YtckcbfnffmohgaaGreat
namespace Go.Proofs.YtckcbfnffmohgaaGreat
open Go Go.RowKit
set_option linter.unusedVariables false

theorem ckF_zero {n : Int} {l : List AK.Ed} {xs : List Int} (h : ckF n l xs = 0) : ∃ k : Nat, n = (k : Int) ∧ 0 < k ∧ k ≤ 60 ∧ Fine k l ∧ (edgF n l).2 = 0 ∧ ∀ x ∈ xs, ∃ z : Nat, x = (z : Int) ∧ z < k := by
  unfold ckF at h
  by_cases h0 : (edgF n l).2 = 0
  · rw [if_neg (by simpa using h0)] at h
    obtain ⟨h1, h2, h3, h4⟩ := fine_of h0
    obtain ⟨k, rfl⟩ := Int.eq_ofNat_of_zero_le (show 0 ≤ n by omega)
    refine ⟨k, rfl, by omega, by omega, ⟨h3, h4⟩, h0, fun x hx => ?_⟩
    by_cases hb : badN k x = true
    · rw [if_pos (List.any_eq_true.2 ⟨x, hx, hb⟩)] at h; omega
    · simp [badN] at hb
      obtain ⟨z, hz⟩ := Int.eq_ofNat_of_zero_le hb.1
      exact ⟨z, hz, by omega⟩
  · rw [if_pos (by simpa using h0)] at h; exact absurd h h0
end Go.Proofs.YtckcbfnffmohgaaGreat
namespace Go.Proofs.YtckcbfnffmohgaaGreat
open Go Go.RowKit
set_option linter.unusedVariables false

/-- Where far's queue and row stand. -/
structure FaR (w : World) (n : Nat) (l : List AK.Ed) (a gd gk : Nat) (v : Value) (wr : World) : Prop where
  all : ∃ q d, QwAt wr v q ∧ DRw w n gd n d wr ∧ (∀ k, v.ownBlock = some k → w.heap.size ≤ k ∧ k ≠ gd) ∧ PD.far0 d n + q.length ≤ gk ∧ gk ≤ 1000 ∧ d.length = n ∧ (q = [] → PD.IsDist n l a d) ∧ ∀ y r, q = y :: r → ∃ h : Nat, PD.g d y = (h : Int) ∧ PD.Bq n l a h d q
/-- Inside: of the nodes beside the first, i were seen. -/
structure FaI (w : World) (n : Nat) (l : List AK.Ed) (a gd gk x i : Nat) (N : List Nat) (v : Value) (wr : World) : Prop where
  all : ∃ q d, ∃ h : Nat, QwAt wr v (x :: q) ∧ DRw w n gd n d wr ∧ (∀ k, v.ownBlock = some k → w.heap.size ≤ k ∧ k ≠ gd) ∧ PD.far0 d n + (q.length + 1) ≤ gk ∧ gk ≤ 1000 ∧ d.length = n ∧ PD.g d x = (h : Int) ∧ PD.Bq n l a h d (x :: q) ∧ ∀ j b, j < i → N[j]? = some b → 0 ≤ PD.g d b
def MkR (w : World) (n gd k : Nat) (wr : World) : Prop := ∃ d, d.length = n ∧ (∀ v, v < k → PD.g d v = -1) ∧ DRw w n gd n d wr
theorem FaI.mark {w w2 w' : World} {n a gd gk x i b : Nat} {l : List AK.Ed} {N : List Nat} {v v' : Value} {q : List Nat} {d : List Int} {h0 : Nat} (h3 : ∀ k, v.ownBlock = some k → w.heap.size ≤ k ∧ k ≠ gd) (h4 : PD.far0 d n + (q.length + 1) ≤ gk) (h5 : gk ≤ 1000) (h6 : d.length = n) (h7 : PD.g d x = (h0 : Int)) (h8 : PD.Bq n l a h0 d (x :: q)) (h9 : ∀ j b, j < i → N[j]? = some b → 0 ≤ PD.g d b)
    (hb : N[i]? = some b) (hbn : b < n) (hadj : PD.adj l x b) (hneg : PD.g d b < 0) (hD : DRw w n gd n (d.set b ((h0 : Int) + 1)) w2) (hq : QwAt w' v' (x :: q ++ [b])) (hc : Chg (fun k => v.ownBlock = some k) w2 w') (hat : v'.ownBlock = v.ownBlock ∨ v'.ownBlock = some w2.heap.size) : FaI w n l a gd gk x (i + 1) N v' w' := by
  have hm := h8.mark h7 hbn hadj hneg
  have hbl : b < d.length := by omega
  have hgl : gd < w2.heap.size := own_lt hD.row rfl
  refine ⟨q ++ [b], d.set b ((h0 : Int) + 1), h0, hq, ⟨own_chg hD.row hc (fun k hk hv => by simp [Value.ownBlock] at hk; subst hk; exact (h3 gd hv).2 rfl), ((Chg.of_below hD.ext).trans hc (fun k _ hk => (h3 k hk).1)).below (Nat.le_refl _) (fun _ _ h => h), hD.new⟩, fun k hk => ?_, ?_, h5, by simpa using h6, ?_, hm, fun j y hj hy => ?_⟩
  · rcases hat with hat | hat
    · exact h3 k (by rw [← hat]; exact hk)
    · rw [hat] at hk; injection hk with hk; subst hk
      exact ⟨hD.ext.size, by omega⟩
  · have := PD.far0_mark (x := (h0 : Int) + 1) h6 hbn hneg (by omega)
    simp; omega
  · rw [PD.g_set_ne (by rintro rfl; omega)]; exact h7
  · by_cases e : b = y
    · subst e; rw [PD.g_set_self hbl]; omega
    · rw [PD.g_set_ne e]
      by_cases e2 : j = i
      · subst e2; rw [hb] at hy; injection hy with hy; exact absurd hy e
      · exact h9 j y (by omega) hy
theorem FaI.done {w wr : World} {n a gd gk x : Nat} {l : List AK.Ed} {N : List Nat} {A : Option Addr} {m c : Nat} (h : FaI w n l a gd gk x N.length N (.slice A m c) wr) (hN : ∀ y, y ∈ N ↔ (y < n ∧ PD.adj l x y)) :
    ∃ g off, A = some ⟨g, off, none⟩ ∧ 1 ≤ m ∧ m ≤ c ∧ c ≤ maxLen ∧ FaR w n l a gd (gk - 1) (.slice (if c = 1 then some ⟨g, off, none⟩ else some ⟨g, off + 1, none⟩) (m - 1) (c - 1)) wr ∧ 1 ≤ gk := by
  obtain ⟨q, d, h0, h1, h2, h3, h4, h5, h6, h7, h8, h9⟩ := h.all
  obtain ⟨g, off, rfl, hm, hmc, hc, _, hq⟩ := h1.pop
  have hp := h8.pop h7 (fun b hb hadj => by
    obtain ⟨j, hj⟩ := List.getElem?_of_mem ((hN b).2 ⟨hb, hadj⟩)
    exact h9 j b (List.getElem?_eq_some_iff.1 hj).1 hj)
  refine ⟨g, off, rfl, by omega, hmc, hc, ⟨q, d, hq, h2, fun k hk => h3 k (by
    by_cases h1 : c = 1
    · rw [if_pos h1] at hk; exact hk
    · rw [if_neg h1] at hk; exact hk), by omega, by omega, h6, hp.1, hp.2⟩, by omega⟩
theorem MkR.end {w wr : World} {n gd : Nat} (h : MkR w n gd n wr) : DRw w n gd n (List.replicate n (-1)) wr := by
  obtain ⟨d, h1, h2, h3⟩ := h
  have e : d = List.replicate n (-1) := by
    apply List.ext_getElem?
    intro v
    by_cases hv : v < n
    · have := h2 v hv
      simp only [PD.g, List.getD_eq_getElem?_getD] at this
      rw [List.getElem?_eq_getElem (by omega)] at this ⊢
      simp at this
      rw [List.getElem?_replicate, if_pos hv, this]
    · rw [List.getElem?_eq_none (by omega), List.getElem?_eq_none (by simp; omega)]
  rw [← e]; exact h3
set_option maxHeartbeats 2000000 in
set_option maxRecDepth 100000 in
theorem far_any (w : World) (n a G cG : Nat) (l : List AK.Ed) (N : Nat → List Nat) (hB : BesAt w G n N) (hN : BesOf n l N) (ha : a < n) (hn : n ≤ 60) :
    Calls Tryz.prog 64 #[.slice (some ⟨G, 0, none⟩) n cG, .int .i64 a] w (FarPost w n l a) := by
  obtain ⟨cs, hcs, hmk⟩ := run_ints n (by omega)
  have HB := Lib.hid hB
  have HN := Lib.hid hN
  have HD0 : Hid (DRw w n w.heap.size n (List.replicate n 0) (w.alloc (.cells cs 3))) := by
    refine ⟨?_, Ext.alloc _ _, Nat.le_refl _⟩
    have := World.ownsRow_lit w cs (e := 3) (size := 1) (base := 0) n (Nat.zero_le _) (by unfold maxLen; omega) (by have := congrArg List.length hcs; simp at this; omega)
    rw [hcs] at this
    simpa [intsV] using this
  clear hB hN hcs
  have hn0 : (0 : Int) ≤ (n : Int) := by omega
  go_enter Tryz.func64, Tryz.ntmps64
  go_wp2
  obtain ⟨gd, hgd⟩ : ∃ x, x = w.heap.size := ⟨_, rfl⟩
  have HM0 : Hid (MkR w n gd 0 (w.alloc (.cells cs 3))) := by
    rw [hgd]; exact ⟨_, by simp, fun v hv => by omega, HD0.out⟩
  rw [← hgd]
  have HGD := Lib.hid hgd
  clear hgd HD0
  go_loopw [15] (fun v wr => ∃ k : Nat, k ≤ n ∧ v = .int .i64 k ∧ Hid (MkR w n gd k wr)) (fun v _ => n - (intOf v).toNat)
  case atStart => exact ⟨0, by omega, rfl, HM0⟩
  case round =>
    obtain ⟨k, hk, rfl, hR⟩ := hrel
    clear HM0
    by_cases hkn : k < n
    · have hkn' : (k : Int) < (n : Int) := by omega
      obtain ⟨d, h1, h2, h3⟩ := hR.out
      obtain ⟨c0, f0⟩ := h3.cell h1 hkn
      have HR2 : Hid (MkR w n gd (k + 1) (wr.setCell ⟨gd, k, none⟩ (.int .i64 (-1)))) := by
        refine ⟨d.set k (-1), by simpa using h1, fun v hv => ?_, h3.set k (-1)⟩
        by_cases e : k = v
        · subst e; rw [PD.g_set_self (by omega)]
        · rw [PD.g_set_ne e]; exact h2 v (by omega)
      clear h1 h2 h3 hR
      go_wp2
      go_roundw
      case rel => exact ⟨k + 1, by omega, by go_num, HR2⟩
      case measure => simp [intOf]; omega
    · have e : k = n := by omega
      subst e
      have HD := Lib.hid hR.out.end
      have ha' : (a : Int) < (k : Int) := by omega
      obtain ⟨c0, f0⟩ := HD.out.cell (by simp) ha
      have HD1 : Hid (DRw w k gd k ((List.replicate k (-1)).set a 0) (wr.setCell ⟨gd, a, none⟩ (.int .i64 0))) := HD.out.set a 0
      have HF0 : Hid (FaR w k l a gd (k + 1) (.slice (some ⟨wr.heap.size, 0, none⟩) 1 1) ((wr.setCell ⟨gd, a, none⟩ (.int .i64 0)).alloc (.cells #[.int .i64 (a : Int)] 3))) := by
        have hgl : gd < wr.heap.size := own_lt HD.out.row rfl
        have hq := QwAt.one (wr.setCell ⟨gd, a, none⟩ (.int .i64 0)) a
        have hz : (wr.setCell ⟨gd, a, none⟩ (.int .i64 0)).heap.size = wr.heap.size := by simp
        rw [hz] at hq
        have hbq := PD.Bq.start l ha
        refine ⟨[a], _, hq, HD1.out.moved (Ext.alloc _ _), fun j hj => ?_, ?_, by omega, by simp, fun h => by simp at h, fun y r hy => ?_⟩
        · simp [Value.ownBlock] at hj; subst hj; exact ⟨HD.out.ext.size, by omega⟩
        · have := PD.far0_le ((List.replicate k (-1 : Int)).set a 0) k; simp; omega
        · simp at hy; obtain ⟨rfl, rfl⟩ := hy; exact ⟨0, by simpa using hbq.zero, hbq⟩
      clear hR HD HD1
      go_wp2
      obtain ⟨wq, hwq⟩ : ∃ x, x = wr := ⟨_, rfl⟩
      subst hwq
      go_loopg [7] (k + 1) (fun gk v7 wr => Hid (FaR w k l a gd gk v7 wr))
      case atStart => exact HF0
      case round =>
        clear HF0
        obtain ⟨q, d, h1, h2, h3, h4, h5, h6, h7, h8⟩ := hrel.out.all
        have HREL := Lib.hid hrel.out
        rcases q with _ | ⟨x, q⟩
        · obtain ⟨A, c, rfl, hqc, hcm⟩ := h1.form
          have HP : Hid (FarPost w k l a (.returned (.slice (some ⟨gd, 0, none⟩) k k)) wr) := ⟨gd, k, d, rfl, h7 rfl, h2⟩
          clear h1 h2 h3 h4 h5 h6 h7 h8 hrel
          go_wp2
          go_ret
          exact HP.out
        · obtain ⟨A, c, rfl, hqc, hcm⟩ := h1.form
          obtain ⟨qg, qo, rfl, _, _, _, qc, _⟩ := h1.pop
          obtain ⟨h0, hx, hbq⟩ := h8 x q rfl
          have hxn : x < k := (hbq.qv x (by simp)).1
          obtain ⟨NA, nc, g1, g2, g3⟩ := HB.out.row x hxn
          have g1 := (h2.ext.cell (p := ⟨G, x, none⟩) HB.out.lt).trans g1
          have HI0 : Hid (FaI w k l a gd gk x 0 (N x) (.slice (some ⟨qg, qo, none⟩) (x :: q).length c) wr) := ⟨q, d, h0, h1, h2, h3, by simpa using h4, h5, h6, hx, hbq, fun j b hj => by omega⟩
          have HNA := Lib.hid g2
          obtain ⟨nl, hnl⟩ : ∃ z, z = (N x).length := ⟨_, rfl⟩
          have hnl4 : nl ≤ 400 := by omega
          rw [← hnl] at g1
          have HNL := Lib.hid hnl
          have hxk : (x : Int) < (k : Int) := by omega
          have hql : (0 : Int) < (q.length : Int) + 1 := by omega
          have hlen : q.length ≤ 1000 := by simp at h4; omega
          have HX0 : Hid (Ext w wr) := h2.ext
          clear h1 h2 h3 h4 h5 h6 h7 h8 hrel hx hbq g2 g3 hnl HREL
          simp only [List.length_cons] at HI0 hqc ⊢
          go_wp2
          obtain ⟨wp, hwp⟩ : ∃ z, z = wr := ⟨_, rfl⟩
          subst hwp
          go_loopw [7, 39] (fun v7 v39 wr => ∃ i : Nat, i ≤ nl ∧ v39 = .int .i64 i ∧ Hid (FaI w k l a gd gk x i (N x) v7 wr)) (fun _ v39 _ => nl - (intOf v39).toNat)
          case atStart => exact ⟨0, by omega, rfl, HI0⟩
          case round =>
            obtain ⟨i, hi, rfl, hI⟩ := hrel
            clear HI0
            by_cases hin : i < nl
            · have hin' : (i : Int) < (nl : Int) := by omega
              have hi0 : (0 : Int) ≤ (i : Int) := by omega
              obtain ⟨b, hb⟩ : ∃ b, (N x)[i]? = some b := ⟨_, List.getElem?_eq_getElem (by rw [← HNL.out]; exact hin)⟩
              have hbm : b ∈ N x := List.mem_of_getElem? hb
              obtain ⟨hbn, hadj⟩ := (HN.out x hxn b).1 hbm
              obtain ⟨nb, no, rfl, nlt, b0⟩ : ∃ nb no, NA = some ⟨nb, no, none⟩ ∧ nb < wr.heap.size ∧ wr.cell? ⟨nb, no + i, none⟩ = some (.int .i64 (b : Int)) := by
                obtain ⟨_, _, _, _, hdr, _⟩ := hI.out.all
                rcases HNA.out.ext hdr.ext with h | ⟨nb, no, h, hlt, hc⟩
                · have := congrArg List.length h
                  simp at this
                  rw [this] at hb; simp at hb
                · exact ⟨nb, no, h, hlt, hc i b (by simp [hb])⟩
              obtain ⟨q, d, h0, h1, h2, h3, h4, h5, h6, h7, h8, h9⟩ := hI.out.all
              obtain ⟨cb, fb⟩ := h2.cell h6 hbn
              obtain ⟨cx, fx⟩ := h2.cell h6 hxn
              obtain ⟨A, c2, rfl, hqc2, hcm2⟩ := h1.form
              obtain ⟨qg2, qo2, rfl, _, _, _, qc2, _⟩ := h1.pop
              have hh0 : (h0 : Int) ≤ 60 := by have := h8.toBase.below hxn; omega
              rw [h7] at cx
              obtain ⟨db, hdb⟩ : ∃ z, PD.g d b = z := ⟨_, rfl⟩
              rw [hdb] at cb
              have HDB := Lib.hid hdb
              have HFI := Lib.hid (⟨h1, h2, h3, h4, h5, h6, h7, h8, h9⟩ : _ ∧ _ ∧ _ ∧ _ ∧ _ ∧ _ ∧ _ ∧ _ ∧ _)
              have hbk : (b : Int) < (k : Int) := by omega
              have hql2 : (0 : Int) < (q.length : Int) + 1 := by omega
              have hlen2 : q.length ≤ 1000 := by omega
              have HBB := Lib.hid hb
              have HADJ := Lib.hid hadj
              simp only [List.length_cons] at hqc2 ⊢
              clear h1 h2 h3 h4 h5 h6 h7 h8 h9 hdb hb hbm hadj hI
              by_cases hneg : db < 0
              · have HD2 : Hid (DRw w k gd k (d.set b ((h0 : Int) + 1)) (wr.setCell ⟨gd, b, none⟩ (.int .i64 ((h0 : Int) + 1)))) := HFI.out.2.1.set b _
                have HQ2 : Hid (QwAt ((wr.setCell ⟨gd, b, none⟩ (.int .i64 ((h0 : Int) + 1))).alloc (.cells #[.int .i64 (b : Int)] 3)) (.slice (some ⟨qg2, qo2, none⟩) (q.length + 1) c2) (x :: q)) := by
                  have q1 := HFI.out.1.chg ((Chg.refl (fun j => j = gd) wr).setCell (p := ⟨gd, b, none⟩) (fun _ => rfl) (.int .i64 ((h0 : Int) + 1))) (fun j hj e => (HFI.out.2.2.1 j hj).2 e)
                  exact q1.chg (Chg.of_below (Ext.alloc _ _)) (fun j hj => by have := q1.lt hj; omega)
                have hql3 : Hid ((x :: q).length ≤ 100000) := by unfold Hid; rw [List.length_cons]; omega
                have hB3 : Hid (((wr.setCell ⟨gd, b, none⟩ (.int .i64 ((h0 : Int) + 1))).alloc (.cells #[.int .i64 (b : Int)] 3)).cell? ⟨wr.heap.size, 0, none⟩ = some (.int .i64 (b : Int))) := cell_new1 (by simp) _ _
                have HMK : Hid (∀ v' w', QwAt w' v' (x :: q ++ [b]) → Chg (fun j => (Value.slice (some ⟨qg2, qo2, none⟩) (q.length + 1) c2).ownBlock = some j) ((wr.setCell ⟨gd, b, none⟩ (.int .i64 ((h0 : Int) + 1))).alloc (.cells #[.int .i64 (b : Int)] 3)) w' → (v'.ownBlock = (Value.slice (some ⟨qg2, qo2, none⟩) (q.length + 1) c2).ownBlock ∨ v'.ownBlock = some ((wr.setCell ⟨gd, b, none⟩ (.int .i64 ((h0 : Int) + 1))).alloc (.cells #[.int .i64 (b : Int)] 3)).heap.size) → FaI w k l a gd gk x (i + 1) (N x) v' w') := fun v' w' hq' hc' hat' => by
                  obtain ⟨h1, h2, h3, h4, h5, h6, h7, h8, h9⟩ := HFI.out
                  exact FaI.mark h3 h4 h5 h6 h7 h8 h9 HBB.out hbn HADJ.out (by rw [HDB.out]; exact hneg) (HD2.out.moved (Ext.alloc _ _)) hq' hc' hat'
                clear HFI
                go_wp2_with (at_builtin; refine wpList_qpush _ rfl (.tmp 58) (.tmp 60) rfl _ (x :: q) rfl HQ2.out hql3.out wr.heap.size b rfl hB3.out ?_; intro v' w' hq' hc' hat'; have HN2 := Lib.hid (HMK.out v' w' hq' hc' hat'); clear hq' hc' hat')
                go_roundw
                case rel => exact ⟨i + 1, by omega, by go_num, HN2⟩
                case measure => simp [intOf]; omega
              · have HN2 : Hid (FaI w k l a gd gk x (i + 1) (N x) (.slice (some ⟨qg2, qo2, none⟩) (q.length + 1) c2) wr) := by
                  obtain ⟨h1, h2, h3, h4, h5, h6, h7, h8, h9⟩ := HFI.out
                  refine ⟨q, d, h0, h1, h2, h3, h4, h5, h6, h7, h8, fun j y hj hy => ?_⟩
                  by_cases e : j = i
                  · subst e; rw [HBB.out] at hy; injection hy with hy; subst hy; rw [HDB.out]; omega
                  · exact h9 j y (by omega) hy
                clear HFI
                go_wp2
                go_roundw
                case rel => exact ⟨i + 1, by omega, by go_num, HN2⟩
                case measure => simp [intOf]; omega
            · have e : i = (N x).length := by rw [← HNL.out]; omega
              have hei : i = nl := by omega
              obtain ⟨q, d, h0, h1, _⟩ := hI.out.all
              obtain ⟨A, c2, rfl, hqc2, hcm2⟩ := h1.form
              have HE : Hid (_) := Lib.hid ((by rw [← e]; exact hI.out : FaI w k l a gd gk x (N x).length (N x) (.slice A (x :: q).length c2) wr).done (HN.out x hxn))
              obtain ⟨qg2, qo2, rfl, _, hmc, _, HFR, hgk⟩ := HE.out
              have HFR := Lib.hid HFR
              simp only [List.length_cons] at HFR hqc2 ⊢
              have hc1 : (1 : Int) ≤ (c2 : Int) := by omega
              have hm1 : (1 : Int) ≤ (q.length : Int) + 1 := by omega
              subst hei
              clear h1 hI HE e
              by_cases hcc : c2 = 1
              · subst hcc
                have HFR2 : Hid (FaR w k l a gd (gk - 1) (.slice (some ⟨qg2, qo2, none⟩) 0 0) wr) := by
                  have hq0 : q.length = 0 := by omega
                  have := HFR.out
                  rw [hq0] at this
                  unfold Hid; simpa using this
                clear HFR
                go_wp2
                go_roundg (gk - 1)
                case measure => omega
                case rel => exact HFR2
              · have HFR2 : Hid (FaR w k l a gd (gk - 1) (.slice (some ⟨qg2, qo2 + 1, none⟩) q.length (c2 - 1)) wr) := by unfold Hid; simpa [hcc] using HFR.out
                clear HFR
                go_wp2
                go_roundg (gk - 1)
                case measure => omega
                case rel => exact HFR2
end Go.Proofs.YtckcbfnffmohgaaGreat
