/-
  Without a joint it falls apart: the walk of TopLess. Conditions: the events are read as 'EvRow' says.
-/
import Derived.Test.YthgniehfejklhaaGreatTopLessPk1
import Derived.Test.YthgniehfejklhaaGreatBs46
import Derived.Test.YthgniehfejklhaaGreatTopLessPk6
import Derived.Lib.QuietBelow
import Derived.StillTailTactics
import Derived.Deep.RegionHeld3
namespace Go.Proofs.YthgniehfejklhaaGreat
open Go Go.RowKit SQ TR DF PD PT
set_option linter.unusedVariables false

theorem gz_cnt {w wr : World} {g0 n B M0 M1 : Nat} {A : List AK.Ed} (h : GzA w wr g0 n B M0 M1 A) : PD.cnt (ldr A) n ≤ n := by
  obtain ⟨G, N, f, _, h2, _⟩ := h.g
  have := tree_len h2.at_
  omega
theorem comp_one {n a : Nat} {C : List AK.Ed} (ha : a < n) (h : ∀ x, Cn (adj C) a x ↔ x = a) : (comp n C a).length = 1 := by
  have e : comp n C a = [(a : Int)] := up_ext (comp_up ..) (by simp) fun x => by
    rw [comp_mem]
    constructor
    · rintro ⟨u, _, c, rfl⟩
      rw [(h u).1 c]; simp
    · intro hx
      simp at hx
      exact ⟨a, ha, (h a).2 rfl, hx⟩
  rw [e]; rfl
/-- Told so far. -/
def TkJ (tb : Bool) (x : Int) (l : List Int) : Prop := tb = true ↔ x ∈ l
theorem tkj_iff {l : List Int} {i : Nat} {e x : Int} (he : l[i]? = some e) : x ∈ l.take (i + 1) ↔ x ∈ l.take i ∨ x = e := by
  rw [List.take_add_one, he]; simp
/-- The graph without some edges, and the row of all. -/
structure TlR (w wr : World) (g0 n M0 M1 : Nat) (A : List AK.Ed) (a i : Nat) (C : List AK.Ed) (AA : Option Addr) : Prop where
  z : GzA w wr g0 n (480060 + 4000 * i) M0 M1 C
  ls : LsI A a i C
  e1 : EdsAt wr AA A
  b1 : A ≠ [] → ∀ x, AA = some x → M0 ≤ x.block ∧ x.block < M1
theorem GzA.mono {w wr : World} {g0 n B B' M0 M1 : Nat} {A : List AK.Ed} (h : GzA w wr g0 n B M0 M1 A) (hB : B ≤ B') : GzA w wr g0 n B' M0 M1 A := by
  obtain ⟨G, N, f, h1, h2, h3, h4⟩ := h.g
  exact ⟨⟨G, N, f, h1, h2, Nat.le_trans h3 hB, h4⟩, h.le, h.m1⟩
theorem TlR.moved {w wr w' : World} {g0 n M0 M1 : Nat} {A : List AK.Ed} {a i : Nat} {C : List AK.Ed} {AA : Option Addr} (h : TlR w wr g0 n M0 M1 A a i C AA) (hx : Ext wr w') : TlR w w' g0 n M0 M1 A a i C AA :=
  ⟨h.z.moved hx, h.ls, (KeepR.of_ext hx h.z.m1).eds h.e1 h.b1, h.b1⟩
theorem TlR.stay {w wr : World} {g0 n M0 M1 : Nat} {A : List AK.Ed} {a i : Nat} {C : List AK.Ed} {AA : Option Addr} {x : AK.Ed} (h : TlR w wr g0 n M0 M1 A a i C AA) (hx : A[i]? = some x) (hh : ¬ hasN a x) : TlR w wr g0 n M0 M1 A a (i + 1) C AA :=
  ⟨h.z.mono (by omega), h.ls.stay hx hh, h.e1, h.b1⟩
theorem TlR.drop {w wr : World} {g0 n M0 M1 : Nat} {A : List AK.Ed} {a i : Nat} {C : List AK.Ed} {AA : Option Addr} {u v : Nat} (h : TlR w wr g0 n M0 M1 A a i C AA) (hi : i < 120) (hup : A.Pairwise ltE) (hx : A[i]? = some ((u : Int), (v : Int))) (hh : hasN a ((u : Int), (v : Int))) :
    Calls Tryz.prog 27 #[.pointer (some ⟨g0, 0, none⟩), .int .i64 u, .int .i64 v] wr fun e w' => e = .returned .nilIface ∧ TlR w w' g0 n M0 M1 A a (i + 1) (cutE ((u : Int), (v : Int)) C) AA := by
  refine (gz_drop h.z (by omega) (h.ls.in_ hx hup)).mono ?_
  rintro e w' ⟨rfl, q1, q2⟩
  exact ⟨rfl, q1.mono (by omega), h.ls.cut hx hh, q2.eds h.e1 h.b1, h.b1⟩
/-- The kit's 'wpStill', that no tactic looks into: where operations are guarded away 'whnf' would run through the region by itself. -/
@[irreducible] def StillW (P : Program) (ops : Array Oper) (w : World) (Q : Act → Prop) (l : List Oper) (a : Act) : Prop := wpStill P ops w Q l a
theorem StillW.start {P : Program} {ops : Array Oper} {w : World} {Q : Act → Prop} {l : List Oper} {a : Act} (h : StillW P ops w Q l a) : wpStill P ops w Q l a := by
  unfold StillW at h; exact h
theorem StillW.nil {P : Program} {ops : Array Oper} {w : World} {Q : Act → Prop} {a : Act} (h : Q a) : StillW P ops w Q [] a := by
  unfold StillW; exact wpStill_nil h
theorem StillW.step {P : Program} {ops : Array Oper} {w : World} {Q : Act → Prop} {a : Act} {o : Oper} {rest : List Oper}
    (h : ∀ K : Act → Prop, Shut (∀ a, StillW P ops w Q rest a → K a) → if Region.wanted o (yielded ops a.tmps) then o.still P a w K else K (a.put o.dst undef)) : StillW P ops w Q (o :: rest) a := by
  unfold StillW; exact wpStill_step (fun K hK => h K (fun a h => hK a (by unfold StillW at h; exact h)))
set_option maxHeartbeats 8000000 in
set_option maxRecDepth 100000 in
theorem tl_walk (n : Int) (a1 : Option Addr) (len1 cap1 : Nat) (l : List AK.Ev) (a : Int) (w : World) (h1 : EvRow w a1 l ∧ l.length = len1 ∧ (len1 ≤ cap1 ∧ cap1 ≤ maxLen) ∧ EvIn l) :
    Calls Tryz.prog 6 #[.int .i64 n, .slice a1 len1 cap1, .int .i64 a] w fun e w' => e = .returned (.bool true) ∧ Below w.heap.size w w' := by
  obtain ⟨hE1, hl1, ⟨hlc, hcm⟩, hin1⟩ := h1
  unfold maxLen at hcm
  have HE1 : Hid (EvRow w a1 l ∧ l.length = len1 ∧ EvIn l) := ⟨hE1, hl1, hin1⟩
  clear hE1 hl1 hin1
  by_cases hn : n < 1 ∨ 60 < n
  · have HDN := Lib.hid (fun W => drawn_no W n a1 len1 cap1 hn)
    clear hn
    go_enter Tryz.func6, Tryz.ntmps6
    go_wp2_with fail
    refine (one_any w).mono ?_
    rintro e w1 ⟨rfl, hx1⟩
    have X1 : Hid (Ext w w1) := hx1
    clear hx1
    go_wp2_with fail
    refine (HDN.out w1).mono ?_
    rintro e w2 ⟨rfl, rfl⟩
    go_wp2
    go_ret
    exact ⟨rfl, X1.out⟩
  obtain ⟨n, rfl⟩ := Int.eq_ofNat_of_zero_le (show 0 ≤ n by omega)
  have hn2 : 1 ≤ n ∧ n ≤ 60 := by omega
  clear hn
  go_enter Tryz.func6, Tryz.ntmps6
  go_wp2_with fail
  refine (one_any w).mono ?_
  rintro e w1 ⟨rfl, hx1⟩
  have X1 : Hid (Ext w w1) := hx1
  have HDR := Lib.hid (drawn_any w1 n hn2 a1 len1 cap1 l HE1.out.2.1 (HE1.out.1.ext hx1) HE1.out.2.2)
  clear hx1
  go_wp2_with fail
  refine HDR.out.mono ?_
  rintro e w2 ⟨G, A, f, N, rfl, hg2, hN, hA⟩
  obtain ⟨g0, hg0⟩ : ∃ g, G.gb = g := ⟨_, rfl⟩
  rw [hg0]
  have HG0 := Lib.hid hg0
  have HG2 : Hid (GcS w1 w2 G n N A f) := hg2
  have HDE : Hid (DkE n A) := hg2.at_.de (by omega)
  have HGE := ge_new hg2.at_ (by omega)
  rw [hg0] at HGE
  have HGE := Lib.hid HGE
  clear hg2 hg0 HDR
  go_wp2_with fail
  refine HGE.out.mono ?_
  rintro e w3 ⟨AA, ca, rfl, hE3, hb3, hx3⟩
  have HE3 : Hid (EdsAt w3 AA A ∧ (A ≠ [] → ∀ x, AA = some x → w2.heap.size ≤ x.block ∧ x.block < w3.heap.size) ∧ Ext w2 w3) := ⟨hE3, hb3, hx3⟩
  clear hE3 hb3 hx3 HGE
  have HJN : Hid (Calls Tryz.prog 29 #[.int .i64 n, .slice AA A.length ca] w3 fun e w' => ∃ (R : Option Addr) (c : Nat) (js : List Int), e = .returned (.tuple #[.slice R js.length c, .nilIface]) ∧ IntsAt w' R js ∧ js.length ≤ 60 ∧ JtsOf n A js ∧ Ext w3 w') := by
    refine (joints_any w3 n AA A.length ca A rfl (by omega) HE3.out.1).mono ?_
    rintro e w' ⟨hx, ⟨hbad, _⟩ | ⟨_, k', R, c, b, hk', rfl, hE, _, hl, hB⟩⟩
    · exact absurd HDE.out.enc hbad
    · obtain rfl : k' = n := by omega
      exact ⟨R, c, b, rfl, hE, hl, hB, hx⟩
  go_wp2_with fail
  refine HJN.out.mono ?_
  rintro e w4 ⟨R, cj, js, rfl, hJ4, hjl, hjs, hx4⟩
  have H4 : Hid (EdsAt w4 AA A ∧ IntsAt w4 R js ∧ Ext w3 w4) := ⟨HE3.out.1.ext hx4, hJ4, hx4⟩
  have HJS := Lib.hid hjs
  clear hJ4 hjs hx4 HJN
  by_cases ha : a < 0 ∨ (n : Int) ≤ a
  · have HX4 : Hid (Ext w w4) := (X1.out.trans HG2.out.ext).trans (HE3.out.2.2.trans H4.out.2.2)
    clear H4 HE3 HG2
    by_cases ha0 : a < 0
    · clear ha
      go_wp2
      go_ret
      exact ⟨rfl, HX4.out⟩
    · have ha1 : (n : Int) ≤ a := by omega
      clear ha
      go_wp2
      go_ret
      exact ⟨rfl, HX4.out⟩
  obtain ⟨a, rfl⟩ := Int.eq_ofNat_of_zero_le (show 0 ≤ a by omega)
  have han : a < n := by omega
  have ya : ¬ (a : Int) < 0 := by omega
  have yb : ¬ (n : Int) ≤ (a : Int) := by omega
  clear ha
  go_wp2
  go_loopw [13, 14] (fun v13 v14 wr => ∃ (i : Nat) (tb : Bool), i ≤ js.length ∧ v13 = .bool tb ∧ v14 = .int .i64 i ∧ Hid (TkJ tb (a : Int) (js.take i) ∧ Ext w4 wr)) (fun _ v14 _ => js.length - (intOf v14).toNat)
  case atStart => exact ⟨0, false, Nat.zero_le _, rfl, rfl, by simp [TkJ], Ext.refl _⟩
  case round =>
    as_aux_lemma =>
    obtain ⟨i, tb, hi, rfl, rfl, HR⟩ := hrel
    by_cases c : i < js.length
    · obtain ⟨y, hy⟩ : ∃ y, js[i]? = some y := ⟨_, List.getElem?_eq_getElem c⟩
      rcases H4.out.2.1.ext HR.out.2 with h0 | ⟨b, off, rfl, _, hc⟩
      · subst h0; simp at c
      have d0 := hc i y hy
      have HY := Lib.hid hy
      have z2 : (0 : Int) ≤ (i : Int) := by omega
      have z3 : (i : Int) < (js.length : Int) := by omega
      clear hy hc
      cases tb with
      | true =>
        have HT : Hid (TkJ true (a : Int) (js.take (i + 1)) ∧ Ext w4 wr) := ⟨iff_of_true rfl ((tkj_iff HY.out).2 (.inl (HR.out.1.1 rfl))), HR.out.2⟩
        clear HR
        go_wp2
        go_roundw
        case rel => exact ⟨i + 1, true, by omega, rfl, by go_num, HT.out⟩
        case measure => simp [intOf]; omega
      | false =>
        have HF : Hid ((a : Int) ∉ js.take i) := fun q => by have := HR.out.1.2 q; cases this
        have HX7 : Hid (Ext w4 wr) := HR.out.2
        clear HR
        by_cases q1 : y = (a : Int)
        · have HT : Hid (TkJ true (a : Int) (js.take (i + 1))) := iff_of_true rfl ((tkj_iff HY.out).2 (.inr q1.symm))
          have e1 : (y == (a : Int)) = true := by simp [q1]
          have e2 : decide (y = (a : Int)) = true := by simp [q1]
          clear q1
          go_wp2
          go_roundw
          case rel => exact ⟨i + 1, true, by omega, rfl, by go_num, HT.out, HX7.out⟩
          case measure => simp [intOf]; omega
        · have HT : Hid (TkJ false (a : Int) (js.take (i + 1))) := iff_of_false (by simp) (fun q => by
            rcases (tkj_iff HY.out).1 q with q | q
            · exact HF.out q
            · exact q1 q.symm)
          have e1 : (y == (a : Int)) = false := by simpa using q1
          have e2 : decide (y = (a : Int)) = false := by simpa using q1
          clear q1
          go_wp2
          go_roundw
          case rel => exact ⟨i + 1, false, by omega, rfl, by go_num, HT.out, HX7.out⟩
          case measure => simp [intOf]; omega
    · have HTB : Hid (tb = true ↔ DF.Jt A a) := by
        have h1 := HR.out.1
        unfold TkJ at h1
        rw [List.take_of_length_le (by omega)] at h1
        refine h1.trans ((HJS.out.2 _).trans ⟨?_, fun h => ⟨a, rfl, han, h⟩⟩)
        rintro ⟨c, hc, _, h⟩
        obtain rfl : c = a := by omega
        exact h
      have H5 : Hid (TlR w1 wr g0 n w2.heap.size w3.heap.size A a 0 A AA) := by
        have hxr := H4.out.2.2.trans HR.out.2
        refine ⟨?_, LsI.start A a, HE3.out.1.ext hxr, HE3.out.2.1⟩
        have := GzA.made (M1 := w3.heap.size) HG2.out hN (by omega) (HE3.out.2.2.trans hxr) hxr.size
        rwa [HG0.out] at this
      clear HR H4 HE3 HG2
      generalize w2.heap.size = M0 at H5
      generalize w3.heap.size = M1 at H5
      have hcn := gz_cnt H5.out.z
      have HP1 := gz_parts H5.out.z
      obtain ⟨pc, hpc⟩ : ∃ q, PD.cnt (ldr A) n = q := ⟨_, rfl⟩
      rw [hpc] at HP1 hcn
      have HP1 := Lib.hid HP1
      have HPC := Lib.hid hpc
      clear hpc
      go_wp2_with fail
      refine HP1.out.mono ?_
      rintro e w6 ⟨rfl, hx6⟩
      have R0 := Lib.hid (H5.out.moved hx6)
      clear hx6 H5 HP1
      go_wp2
      go_loopw [16] (fun v16 wr => ∃ (i : Nat) (C : List AK.Ed), i ≤ A.length ∧ v16 = .int .i64 i ∧ Hid (TlR w1 wr g0 n M0 M1 A a i C AA)) (fun v16 _ => A.length - (intOf v16).toNat)
      case atStart => exact ⟨0, A, Nat.zero_le _, rfl, R0.out⟩
      case round =>
        as_aux_lemma =>
        obtain ⟨i, C, hi, rfl, HR⟩ := hrel
        clear R0
        by_cases c : i < A.length
        · obtain ⟨bs, off, rfl, hbs, ⟨x1, x2⟩, hx, p1, p2⟩ := eds_at HR.out.e1 c
          simp only at p1 p2
          have hxo := HDE.out.ok _ (List.mem_of_getElem? hx)
          simp only at hxo
          obtain ⟨u, rfl⟩ := Int.eq_ofNat_of_zero_le hxo.1
          obtain ⟨v, rfl⟩ := Int.eq_ofNat_of_zero_le (show 0 ≤ x2 by omega)
          have HX := Lib.hid hx
          have z2 : (0 : Int) ≤ (i : Int) := by omega
          have z3 : (i : Int) < (A.length : Int) := by omega
          clear hx hxo
          have HCE : Hid (∀ W i' C', TlR w1 W g0 n M0 M1 A a i' C' (some ⟨bs, off, none⟩) → W.cell? ⟨bs, off + i * 2, none⟩ = some (.int .i64 (u : Nat)) ∧ W.cell? ⟨bs, off + i * 2 + 1, none⟩ = some (.int .i64 (v : Nat))) := fun W i' C' h => by
            rcases h.e1 with h0 | ⟨b', off', he, hb', hc'⟩
            · subst h0; simp at c
            · injection he with he
              injection he with e1 e2
              subst e1; subst e2
              exact hc' i _ HX.out
          by_cases h1 : (u : Int) = (a : Int)
          · have HH : Hid (hasN a ((u : Int), (v : Int))) := .inl h1
            have e1 : ((u : Int) == (a : Int)) = true := by rw [beq_iff_eq]; exact h1
            have e2 : (u == a) = true := by rw [beq_iff_eq]; omega
            clear h1
            have HDP := Lib.hid (fun W (hW : Ext wr W) => (HR.out.moved hW).drop (by omega) HDE.out.up HX.out HH.out)
            clear HR
            go_wp2_with fail
            refine wp_region_still_tail 28 (by kernel_rfl) (by kernel_rfl) (StillW.start ?_)
            simp only [List.take_succ_cons, List.take_zero, List.drop_succ_cons, List.drop_zero]
            iterate 28 (refine StillW.step (fun K hK => ?_); go_simp; refine hK.out _ ?_; clear hK K)
            refine StillW.nil ?_
            go_wp2_with fail
            refine (HDP.out _ (Ext.drew wr)).mono ?_
            rintro e w8 ⟨rfl, h8⟩
            have H8 := Lib.hid h8
            clear h8 HDP HCE p1 p2
            go_wp2
            go_roundw
            case rel => exact ⟨i + 1, _, by omega, by go_num, H8.out⟩
            case measure => simp [intOf]; omega
          by_cases h2 : (v : Int) = (a : Int)
          · have HH : Hid (hasN a ((u : Int), (v : Int))) := .inr h2
            have e1 : ((u : Int) == (a : Int)) = false := by rw [beq_eq_false_iff_ne]; exact h1
            have e2 : ((v : Int) == (a : Int)) = true := by rw [beq_iff_eq]; exact h2
            have e3 : (u == a) = false := by rw [beq_eq_false_iff_ne]; omega
            have e4 : (v == a) = true := by rw [beq_iff_eq]; omega
            clear h1 h2
            have HDP := Lib.hid (fun W (hW : Ext wr W) => (HR.out.moved hW).drop (by omega) HDE.out.up HX.out HH.out)
            clear HR
            go_wp2_with fail
            go_region_held3 (fun W => W.cell? ⟨bs, off + i * 2, none⟩ = some (.int .i64 (u : Nat)) ∧ W.cell? ⟨bs, off + i * 2 + 1, none⟩ = some (.int .i64 (v : Nat)))
              (go_keep)
              (first
                | (go_at_call 27; refine (HDP.out _ (Ext.drew _)).mono ?_; rintro e w8 ⟨rfl, h8⟩; have H8 := Lib.hid h8; have k8 := HCE.out _ _ _ h8; have k1 := k8.1; have k2 := k8.2; clear h8 k8)
                | fail)
            rename_i hHeld
            clear hHeld HDP HCE p1 p2 k1 k2
            go_wp2
            go_roundw
            case rel => exact ⟨i + 1, _, by omega, by go_num, H8.out⟩
            case measure => simp [intOf]; omega
          · have e1 : ((u : Int) == (a : Int)) = false := by rw [beq_eq_false_iff_ne]; exact h1
            have e2 : ((v : Int) == (a : Int)) = false := by rw [beq_eq_false_iff_ne]; exact h2
            have e3 : (u == a) = false := by rw [beq_eq_false_iff_ne]; omega
            have e4 : (v == a) = false := by rw [beq_eq_false_iff_ne]; omega
            have HN := Lib.hid (HR.out.stay HX.out (fun q => q.elim h1 h2))
            have s1 : ∀ d os, (Go.Sort.grow (redrawn wr d) os).cell? ⟨bs, off + i * 2, none⟩ = some (.int .i64 (u : Nat)) := fun d os => (HCE.out _ _ _ (HN.out.moved (below_regrown wr d os))).1
            have s2 : ∀ d os, (Go.Sort.grow (redrawn wr d) os).cell? ⟨bs, off + i * 2 + 1, none⟩ = some (.int .i64 (v : Nat)) := fun d os => (HCE.out _ _ _ (HN.out.moved (below_regrown wr d os))).2
            clear h1 h2 HR p1 p2
            go_wp2
            refine wp_region_quiet_below (by kernel_rfl) (by kernel_rfl) ?_
            repeat (go_big_quiet_step (fail))
            refine wpQuiet_nil ?_
            intro _ hw'
            obtain ⟨⟨dq, osq⟩, hw''⟩ := hw'
            subst hw''
            have HN2 := Lib.hid (HN.out.moved (below_regrown wr dq osq))
            clear HN s1 s2 HCE
            go_wp2
            go_roundw
            case rel => exact ⟨i + 1, _, by omega, by go_num, HN2.out⟩
            case measure => simp [intOf]; omega
        · obtain rfl : i = A.length := by omega
          have HLP := Lib.hid (less_parts HR.out.ls HDE.out.ok han)
          have hone := comp_one han (less_one HR.out.ls HDE.out.ok han)
          have hcd := gz_cnt HR.out.z
          have HSZ := gz_size HR.out.z a han
          rw [hone] at HSZ
          have HSZ := Lib.hid HSZ
          obtain ⟨pd, hpd⟩ : ∃ q, PD.cnt (ldr C) n = q := ⟨_, rfl⟩
          rw [hpd] at hcd
          have HPP : Hid (∀ W, Ext wr W → Calls Tryz.prog 22 #[.pointer (some ⟨g0, 0, none⟩)] W fun e w' => e = .returned (.int .i64 (pd : Nat)) ∧ Ext W w') := fun W hW => by
            have q := gz_parts (HR.out.z.moved hW)
            rwa [hpd] at q
          have HJT : Hid (pc + 1 < pd ↔ tb = true) := by
            have q := HLP.out
            rw [hpd, HPC.out] at q
            exact q.trans HTB.out.symm
          have HXE : Hid (Ext w wr) := X1.out.trans HR.out.z.ext
          clear hone hpd HLP HR HTB HPC
          go_wp2_with fail
          refine HSZ.out.mono ?_
          rintro e w8 ⟨rfl, hx8⟩
          have X8 : Hid (Ext wr w8) := hx8
          clear hx8 HSZ
          go_wp2_with fail
          refine (HPP.out _ X8.out).mono ?_
          rintro e w9 ⟨rfl, hx9⟩
          have X9 : Hid (Ext w w9) := HXE.out.trans (X8.out.trans hx9)
          clear hx9 X8 HXE HPP
          by_cases q : pc + 1 < pd
          · obtain rfl : tb = true := HJT.out.1 q
            have y1 : (pc : Int) < (pd : Int) - 1 := by omega
            clear HJT q
            go_wp2
            go_ret
            exact ⟨rfl, X9.out⟩
          · obtain rfl : tb = false := by
              cases tb with
              | false => rfl
              | true => exact absurd (HJT.out.2 rfl) q
            have y1 : ¬ (pc : Int) < (pd : Int) - 1 := by omega
            have y2 : decide ((pc : Int) < (pd : Int) - 1) = false := decide_eq_false y1
            clear HJT q
            go_wp2
            go_ret
            exact ⟨rfl, X9.out⟩
end Go.Proofs.YthgniehfejklhaaGreat
