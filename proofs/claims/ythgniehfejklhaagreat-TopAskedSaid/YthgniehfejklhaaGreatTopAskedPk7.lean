/-
  However it is asked: the walk of TopAsked. Conditions: the events and the row of numbers are read as 'EvRow' and 'IntsAt' say.
-/
import Derived.Test.YthgniehfejklhaaGreatTopAskedPk2
import Derived.Test.YthgniehfejklhaaGreatBs46
import Derived.Test.YthgniehfejklhaaGreatTopAskedPk6
namespace Go.Proofs.YthgniehfejklhaaGreat
open Go Go.RowKit Go.ChangeShapes Go.WideShapes SQ TR DF PD PT
set_option linter.unusedVariables false

theorem open_evs3 {H : Type} {enc : TypeId × Value → H} {w : World} {spare : Nat → Bool} {held : Bool} {a : Option Addr} {len cap : Nat} {d : DataW H} {p : List MemPlace} (h : DataW.Trod enc Tryz.prog w 0 spare held 22 (.slice a len cap) d p) : ∃ l : List AK.Ev, EvRow w a l ∧ l.length = len ∧ (len ≤ cap ∧ cap ≤ maxLen) ∧ EvIn l ∧ (a = none → len = 0 ∧ cap = 0) := by
  obtain ⟨fuel, hf⟩ := h
  have hno := open_none Tryz.underlying22 (show DataW.trod enc Tryz.prog w 0 spare held fuel 22 [.slice a len cap] = _ from hf)
  obtain ⟨A, m, c, l, hv, q1, q2, q3, _, q4⟩ := open_evrow hf
  injection hv with e1 e2 e3
  subst e1; subst e2; subst e3
  exact ⟨l, q1, q2, q3, q4, hno⟩
theorem EvRow.evs {w : World} {A : Option Addr} {l : List AK.Ev} (h : EvRow w A l) : EvsAt w A l := by
  rcases h with h | ⟨b, off, rfl, hb, hc⟩
  · exact .inl h
  · exact .inr ⟨b, off, rfl, hb, fun i e he => hc i e he⟩
theorem Keeps.own {wr w' : World} {vO : Value} {q : Nat} {xs : List Bool} (hk : Keeps wr w') (h : wr.ownsRow 0 4 1 vO q (bolV xs)) : w'.ownsRow 0 4 1 vO q (bolV xs) := by
  obtain ⟨S, hc, hS⟩ := hk
  refine own_chg h hc fun k hk hs => ?_
  obtain ⟨cs, hb⟩ := own_blkB h hk
  rcases hS k hs with q | ⟨t2, cs2, hb2, ht2⟩
  · have := own_lt h hk; omega
  · have := blk_ty hb hb2
    subst this
    revert ht2; decide
/-- A piece of a row of events. -/
theorem ev_piece {w : World} {A : Option Addr} {l : List AK.Ev} (h : EvRow w A l) (i d : Nat) : (l = [] ∧ (l.drop i).take d = []) ∨ ∃ b off, A = some ⟨b, off, none⟩ ∧ EvRow w (some ⟨b, off + i * 3, none⟩) ((l.drop i).take d) := by
  rcases h with h | ⟨b, off, rfl, hb, hc⟩
  · exact .inl ⟨h, by subst h; simp⟩
  · refine .inr ⟨b, off, rfl, .inr ⟨b, off + i * 3, rfl, hb, fun j e hj => ?_⟩⟩
    rw [List.getElem?_take] at hj
    split at hj
    · rw [List.getElem?_drop] at hj
      have := hc (i + j) e hj
      rw [show off + (i + j) * 3 = off + i * 3 + j * 3 by omega] at this
      exact this
    · cases hj
/-- What TopAsked's loop holds. -/
structure TaR (W wr : World) (gu kb n t : Nat) (A S : List AK.Ed) (l : List AK.Ev) (at_ : Nat) (os : List Bool) (vO : Value) : Prop where
  dk : DskA true W wr gu kb n t A S
  ag : AG.AgE n l at_ A
  eqs : os = AK.asked l 0 at_
  row : wr.ownsRow 0 4 1 vO os.length (bolV os)
  new : ∀ j, vO.ownBlock = some j → W.heap.size ≤ j
theorem DskA.row {lf : Bool} {W wr w' : World} {gu kb n t q : Nat} {A S : List AK.Ed} {vO : Value} {xs : List Bool} (h : DskA lf W wr gu kb n t A S) (ho : wr.ownsRow 0 4 1 vO q (bolV xs)) (hW : ∀ j, vO.ownBlock = some j → W.heap.size ≤ j) (hc : Chg (fun k => vO.ownBlock = some k) wr w') : DskA lf W w' gu kb n t A S := by
  obtain ⟨d, gs, N, G, f, h1, h2⟩ := h
  have hbk : ∀ k, vO.ownBlock = some k → ∃ cs, Blk wr k 4 cs := fun k hk => own_blkB ho hk
  have hnT : ∀ k, vO.ownBlock = some k → ¬ G.T k := fun k hk => by
    obtain ⟨cs, hb⟩ := hbk k hk
    exact h1.g.m.notyp (by decide) hb
  obtain ⟨u, v, k1, k2, k3, k4, k5⟩ := h1.sk.all
  have hex : Ext W w' := Below.trans h1.sk.bel (hc.below h1.sk.bel.size (fun k _ e => hW k e))
  have hsk : SkR W 62 d gu gs t (NT.encL n S) false none w' := by
    refine ⟨⟨u, v, k1.chg hc (fun k hk e => ?_), k2, k3.chg hc (fun e => ?_) (fun k hk e => ?_), k4, k5⟩, hex, h1.sk.gs, fun _ _ h => by simp at h⟩
    · obtain ⟨cs, hb⟩ := hbk k e
      exact k1.notyp hb (by decide) hk
    · exact own_ne ho k3.blk (by decide) e
    · obtain ⟨cs, hb⟩ := hbk k e
      exact own_ne k3.row hb (by decide) hk
  exact ⟨d, gs, N, G, f, ⟨hsk, h1.blk.chg hc (fun e => own_ne ho h1.blk (by decide) e), ⟨h1.g.m.chg hc (fun k hk e => hnT k e (.inl hk)) (fun i F hi e => hnT _ e (.inr ⟨i, F, hi, rfl⟩)) (fun k e cs hb2 => by
    obtain ⟨cs3, hb3⟩ := hbk k e
    exact absurd (blk_ty hb3 hb2) (by decide)), h1.g.k, h1.g.few, h1.g.nN⟩, h1.new, h1.le⟩, h2⟩
set_option maxHeartbeats 8000000 in
set_option maxRecDepth 100000 in
theorem ta_walk (n : Int) (a1 : Option Addr) (len1 cap1 : Nat) (l : List AK.Ev) (ka : Option Addr) (km kc : Nat) (cuts : List Int) (w : World) (h1 : EvRow w a1 l ∧ l.length = len1 ∧ (len1 ≤ cap1 ∧ cap1 ≤ maxLen) ∧ EvIn l ∧ (a1 = none → len1 = 0 ∧ cap1 = 0)) (h2 : IntsAt w ka cuts ∧ cuts.length = km ∧ km ≤ kc ∧ kc ≤ maxLen) :
    Calls Tryz.prog 4 #[.int .i64 n, .slice a1 len1 cap1, .slice ka km kc] w fun e w' => e = .returned (.bool true) ∧ Below w.heap.size w w' := by
  obtain ⟨hE1, hl1, ⟨hlc, hcm⟩, hin1, hno1⟩ := h1
  obtain ⟨hK, hkl, hkc, hkm⟩ := h2
  unfold maxLen at hcm hkm
  have HE1 : Hid (EvRow w a1 l ∧ l.length = len1 ∧ EvIn l) := ⟨hE1, hl1, hin1⟩
  have HNO := Lib.hid hno1
  have HK : Hid (IntsAt w ka cuts ∧ cuts.length = km) := ⟨hK, hkl⟩
  clear hE1 hl1 hin1 hno1 hK hkl
  by_cases hgd : ∃ x, (AK.chk n l).2 = some x
  · obtain ⟨x, hx⟩ := hgd
    have HAN := Lib.hid (fun W (hW : Ext w W) => answers_no W n a1 len1 cap1 l HE1.out.2.1 (by omega) (HE1.out.1.ext hW).evs x hx)
    clear hx
    go_enter Tryz.func4, Tryz.ntmps4
    go_wp2_with fail
    refine (one_any w).mono ?_
    rintro e w1 ⟨rfl, hx1⟩
    have X1 : Hid (Ext w w1) := hx1
    clear hx1
    go_wp2_with fail
    refine (HAN.out w1 X1.out).mono ?_
    rintro e w2 ⟨rfl, hx2⟩
    have X2 : Hid (Ext w w2) := X1.out.trans hx2
    clear hx2 X1 HAN
    go_wp2
    go_ret
    exact ⟨rfl, X2.out⟩
  have hg : AK.Good n l := by
    refine AK.good_iff.1 ?_
    cases h : (AK.chk n l).2 with
    | none => rfl
    | some x => exact absurd ⟨x, h⟩ hgd
  clear hgd
  obtain ⟨n, rfl⟩ := Int.eq_ofNat_of_zero_le (show 0 ≤ n by have := hg.1; omega)
  have hn2 : 1 ≤ n ∧ n ≤ 60 := by have := hg.1; have := hg.2.1; omega
  have hl120 : len1 ≤ 120 := by have := hg.2.2.1; have := HE1.out.2.1; omega
  have HG := Lib.hid hg
  clear hg
  go_enter Tryz.func4, Tryz.ntmps4
  go_wp2_with fail
  refine (one_any w).mono ?_
  rintro e w1 ⟨rfl, hx1⟩
  have X1 : Hid (Ext w w1) := hx1
  clear hx1
  go_wp2_with fail
  refine (answers_yes w1 n a1 len1 cap1 l HE1.out.2.1 (HE1.out.1.ext X1.out).evs HG.out).mono ?_
  rintro e w2 ⟨Aw, cw, rfl, hrow2, hx2, _⟩
  have hwl : (AK.answers l).length ≤ 120 := by have := AK.asked_len l 0 l.length; have := HE1.out.2.1; unfold AK.answers; omega
  obtain ⟨ws, hws⟩ : ∃ ws, AK.answers l = ws := ⟨_, rfl⟩
  rw [hws] at hrow2 hwl
  rw [hws]
  have HWS := Lib.hid hws
  have X2 : Hid (Ext w w2) := X1.out.trans hx2
  have HW2 : Hid (BoolsAt w2 Aw ws) := (BoolsAt.of_own hrow2).1
  clear hrow2 hx2 hws X1
  go_wp2_with fail
  refine (dnew_yes w2 62 (by omega) (by omega)).mono ?_
  rintro e w3 ⟨u, rfl, hd3, hx3, hf3⟩
  have HFM := dformat_new u hd3 hx3 hf3 hn2
  obtain ⟨gu, hgu⟩ : ∃ g, u.g = g := ⟨_, rfl⟩
  rw [hgu] at HFM ⊢
  have HFM := Lib.hid HFM
  clear hd3 hx3 hf3 hgu
  go_wp2_with fail
  refine HFM.out.mono ?_
  intro e w4 h4
  obtain ⟨rfl, hk4⟩ := da_fmt h4 hn2
  have H4 := Lib.hid hk4
  clear h4 hk4 HFM
  go_wp2_with fail
  refine (da_open H4.out).mono ?_
  rintro e w5 ⟨kb, rfl, h5, _⟩
  have R0 : Hid (TaR w2 w5 gu kb n 1 [] [] l 0 [] (.slice none 0 0)) := ⟨h5, AG.AgE.start n l, rfl, World.ownsRow_nil _ _ _ _, fun j hj => by simp [Value.ownBlock] at hj⟩
  clear h5 H4
  go_wp2
  go_loopw [12, 13, 14, 15] (fun v12 v13 v14 v15 wr => ∃ (i t kb at_ : Nat) (A S : List AK.Ed) (os : List Bool) (Ao : Option Addr) (co : Nat), i ≤ km + 1 ∧ i ≤ 20 ∧ t ≤ i + 1 ∧ at_ ≤ len1 ∧ v12 = .pointer (some ⟨kb, 0, none⟩) ∧ v13 = .slice Ao os.length co ∧ v14 = .int .i64 at_ ∧ v15 = .int .i64 i ∧ Hid (TaR w2 wr gu kb n t A S l at_ os (.slice Ao os.length co))) (fun _ _ _ v15 _ => km + 1 - (intOf v15).toNat)
  case atStart => exact ⟨0, 1, kb, 0, [], [], [], none, 0, Nat.zero_le _, Nat.zero_le _, by omega, Nat.zero_le _, rfl, rfl, rfl, rfl, R0.out⟩
  case round =>
    as_aux_lemma =>
    obtain ⟨i, t, kb, at_, A, S, os, Ao, co, hi, hi20, ht, hat, rfl, rfl, rfl, rfl, HR⟩ := hrel
    clear R0
    by_cases c : i ≤ km ∧ i < 20
    · obtain ⟨c1, c2⟩ := c
      have z0 : (0 : Int) ≤ (i : Int) := by omega
      have z1 : (i : Int) ≤ (km : Int) := by omega
      have z2 : (i : Int) < 20 := by omega
      go_upto_region 19 with fail
      obtain ⟨tb, htb⟩ : ∃ tb : Bool, tb = true ↔ ∃ tq : Nat, cuts[i]? = some (tq : Int) ∧ at_ ≤ tq ∧ tq < len1 := by
        classical
        exact ⟨decide (∃ tq : Nat, cuts[i]? = some (tq : Int) ∧ at_ ≤ tq ∧ tq < len1), decide_eq_true_iff⟩
      have HTB := Lib.hid htb
      have HCT : Hid (∀ cv, cuts[i]? = some cv → ∃ b off, ka = some ⟨b, off, none⟩ ∧ wr.cell? ⟨b, off + i, none⟩ = some (.int .i64 cv) ∧ i < km) := fun cv hcv => by
        have hi2 := (List.getElem?_eq_some_iff.1 hcv).1
        have hX : Ext w wr := X2.out.trans HR.out.dk.ext
        rcases HK.out.1 with h0 | ⟨b, off, rfl, hb, hc⟩
        · subst h0; simp at hi2
        · exact ⟨b, off, rfl, (hX.cell (p := ⟨b, off + i, none⟩) hb).trans (hc i cv hcv), by have := HK.out.2; omega⟩
      clear htb
      go_cut [82] from 62 to 82 (fun s82 wx => s82 = .bool tb ∧ wx = wr)
      case first =>
        as_aux_lemma =>
        by_cases hk : i < km
        · obtain ⟨cv, hcv⟩ : ∃ cv, cuts[i]? = some cv := ⟨_, List.getElem?_eq_getElem (by rw [HK.out.2]; exact hk)⟩
          obtain ⟨b, off, rfl, c0, _⟩ := HCT.out cv hcv
          have y0 : (i : Int) < (km : Int) := by omega
          by_cases h1 : (at_ : Int) ≤ cv
          · by_cases h2 : cv < (len1 : Int)
            · have : tb = true := HTB.out.2 ⟨cv.toNat, by rw [hcv]; congr 1; omega, by omega, by omega⟩
              subst this
              clear hcv HTB
              go_wp2; go_meet; exact ⟨rfl, rfl⟩
            · have : tb = false := by
                cases tb with
                | false => rfl
                | true =>
                  obtain ⟨tq, q1, q2, q3⟩ := HTB.out.1 rfl
                  rw [hcv] at q1
                  injection q1 with q1
                  omega
              subst this
              clear hcv HTB
              go_wp2; go_meet; exact ⟨rfl, rfl⟩
          · have : tb = false := by
              cases tb with
              | false => rfl
              | true =>
                obtain ⟨tq, q1, q2, q3⟩ := HTB.out.1 rfl
                rw [hcv] at q1
                injection q1 with q1
                omega
            subst this
            clear hcv HTB
            go_wp2; go_meet; exact ⟨rfl, rfl⟩
        · have : tb = false := by
            cases tb with
            | false => rfl
            | true =>
              obtain ⟨tq, q1, q2, q3⟩ := HTB.out.1 rfl
              have := (List.getElem?_eq_some_iff.1 q1).1
              have := HK.out.2
              omega
          subst this
          have y0 : ¬ (i : Int) < (km : Int) := by omega
          clear HTB
          go_wp2; go_meet; exact ⟨rfl, rfl⟩
      case rest =>
        as_aux_lemma =>
        obtain ⟨rfl, hw⟩ := hcut
        have hw' := hw.symm
        subst hw'
        go_upto_if 82 with fail
        go_cut [16] from 83 to 86 (fun s16 wx => ∃ tq : Nat, at_ ≤ tq ∧ tq ≤ len1 ∧ s16 = .int .i64 tq ∧ wx = wr)
        case first =>
          as_aux_lemma =>
          cases tb with
          | true =>
            obtain ⟨tq, q1, q2, q3⟩ := HTB.out.1 rfl
            obtain ⟨b, off, rfl, c0, hk⟩ := HCT.out tq q1
            have y0 : (i : Int) < (km : Int) := by omega
            clear q1 HTB
            go_wp2; go_meet; exact ⟨tq, q2, by omega, rfl, rfl⟩
          | false =>
            clear HTB HCT
            go_wp2; go_meet; exact ⟨len1, hat, Nat.le_refl _, rfl, rfl⟩
        case rest =>
          as_aux_lemma =>
          obtain ⟨tq, hto1, hto2, rfl, hw⟩ := hcut
          have hw' := hw.symm
          subst hw'
          clear HTB HCT
          obtain ⟨d, rfl⟩ : ∃ d, tq = at_ + d := ⟨tq - at_, by omega⟩
          obtain ⟨A', hdn, hag⟩ := HR.out.ag.done (d := d) HG.out (by have := HE1.out.2.1; omega)
          have hxl : (AK.asked l at_ d).length ≤ 120 := hdn.len
          have hadd := AK.asked_add l 0 at_ d
          rw [Nat.zero_add] at hadd
          obtain ⟨xs, hxs⟩ : ∃ xs, AK.asked l at_ d = xs := ⟨_, rfl⟩
          rw [hxs] at hdn hxl hadd
          have HDN := Lib.hid hdn
          have HAG := Lib.hid hag
          have HAD := Lib.hid hadd
          have hpl : ((l.drop at_).take d).length = d := by rw [List.length_take, List.length_drop]; have := HE1.out.2.1; omega
          have HDO : Hid (∀ (Ae : Option Addr) (c : Nat), EvRow wr Ae ((l.drop at_).take d) → Calls Tryz.prog 17 #[.pointer (some ⟨kb, 0, none⟩), .slice Ae d c] wr fun e w' => ∃ Ao2 c2, e = .returned (.tuple #[.slice Ao2 xs.length c2, .nilIface]) ∧ w'.ownsRow 0 4 1 (.slice Ao2 xs.length c2) xs.length (bolV xs) ∧ DskA true w2 w' gu kb n t A' S ∧ w'.ownsRow 0 4 1 (.slice Ao os.length co) os.length (bolV os)) := fun Ae c hAe => by
            refine (da_do HR.out.dk Ae d c _ hpl hAe (fun e he => HE1.out.2.2 e (List.mem_of_mem_drop (List.mem_of_mem_take he)))).mono ?_
            rintro e w6 (⟨k', hk', _⟩ | ⟨A2, xs2, hdn2, Ao2, c2, rfl, ho, _, h6, hc6⟩)
            · exact (hk'.no2 HDN.out).elim
            · obtain ⟨e1, e2⟩ := hdn2.one HDN.out
              rw [e2] at ho ⊢
              rw [e1] at h6
              exact ⟨Ao2, c2, rfl, ho, h6, row_do HR.out.row HR.out.dk.blk hc6⟩
          have HPC := Lib.hid (ev_piece (HE1.out.1.ext (X2.out.trans HR.out.dk.ext)) at_ d)
          have HNW := Lib.hid HR.out.new
          have hos : os.length ≤ 120 := by
            rw [HR.out.eqs]
            have := AK.asked_len l 0 at_
            omega
          have HOS := Lib.hid HR.out.eqs
          clear hdn hag hpl hxs hadd HR
          have y0 : (0 : Int) ≤ (at_ : Int) := by omega
          have y1 : (at_ : Int) ≤ ((at_ + d : Nat) : Int) := by omega
          have y2 : ((at_ + d : Nat) : Int) ≤ (cap1 : Int) := by omega
          have y3 : at_ + d - at_ = d := by omega
          go_upto_region 21 with fail
          go_cut [17, 18] from 87 to 95 (fun s17 s18 wx => ∃ (Ao2 : Option Addr) (c2 : Nat), s17 = .slice Ao2 xs.length c2 ∧ s18 = .nilIface ∧ Hid (wx.ownsRow 0 4 1 (.slice Ao2 xs.length c2) xs.length (bolV xs) ∧ DskA true w2 wx gu kb n t A' S ∧ wx.ownsRow 0 4 1 (.slice Ao os.length co) os.length (bolV os)))
          case first =>
            as_aux_lemma =>
            rcases HPC.out with ⟨hl0, hp0⟩ | ⟨b, off, rfl, hpe⟩
            · have hl1 : len1 = 0 := by have := HE1.out.2.1; rw [hl0] at this; simpa using this.symm
              obtain rfl : at_ = 0 := by omega
              obtain rfl : d = 0 := by omega
              subst hl1
              have HPE : Hid (∀ Ae, EvRow wr Ae ((l.drop 0).take 0)) := fun Ae => .inl hp0
              clear hp0 hl0 HPC
              cases a1 with
              | none =>
                obtain ⟨_, hc0⟩ := HNO.out rfl
                subst hc0
                go_wp2_with fail
                refine (HDO.out _ _ (HPE.out _)).mono ?_
                rintro e w6 ⟨Ao2, c2, rfl, hp⟩
                have HP := Lib.hid hp
                clear hp HDO
                go_wp2
                go_meet
                exact ⟨Ao2, c2, rfl, rfl, HP.out⟩
              | some ad =>
                by_cases hc0 : cap1 = 0
                · subst hc0
                  go_wp2_with fail
                  refine (HDO.out _ _ (HPE.out _)).mono ?_
                  rintro e w6 ⟨Ao2, c2, rfl, hp⟩
                  have HP := Lib.hid hp
                  clear hp HDO
                  go_wp2
                  go_meet
                  exact ⟨Ao2, c2, rfl, rfl, HP.out⟩
                · have y5 : (0 : Int) < (cap1 : Int) := by omega
                  go_wp2_with fail
                  refine (HDO.out _ _ (HPE.out _)).mono ?_
                  rintro e w6 ⟨Ao2, c2, rfl, hp⟩
                  have HP := Lib.hid hp
                  clear hp HDO
                  go_wp2
                  go_meet
                  exact ⟨Ao2, c2, rfl, rfl, HP.out⟩
            · by_cases hc0 : at_ = cap1
              · obtain rfl : d = 0 := by omega
                subst hc0
                have HPE : Hid (∀ Ae, EvRow wr Ae ((l.drop at_).take 0)) := fun Ae => .inl (by simp)
                clear hpe HPC
                go_wp2_with fail
                refine (HDO.out _ _ (HPE.out _)).mono ?_
                rintro e w6 ⟨Ao2, c2, rfl, hp⟩
                have HP := Lib.hid hp
                clear hp HDO
                go_wp2
                go_meet
                exact ⟨Ao2, c2, rfl, rfl, HP.out⟩
              · have HPE := Lib.hid hpe
                have y5 : (at_ : Int) < (cap1 : Int) := by omega
                have y6 : at_ < cap1 := by omega
                clear hpe HPC
                go_wp2_with fail
                refine (HDO.out _ _ HPE.out).mono ?_
                rintro e w6 ⟨Ao2, c2, rfl, hp⟩
                have HP := Lib.hid hp
                clear hp HDO
                go_wp2
                go_meet
                exact ⟨Ao2, c2, rfl, rfl, HP.out⟩
          case rest =>
            as_aux_lemma =>
            obtain ⟨Ao2, c2, rfl, rfl, HC⟩ := hcut
            clear HDO HPC
            go_wp2_with (at_builtin; refine wpList_append_rows _ rfl (.tmp 96) (.tmp 97) 45 rfl 4 (.bool false) 1 1 Tryz.underlying45 infoBl rfl (by decide) (.slice Ao os.length co) os.length (bolV os) rfl HC.out.2.2 Ao2 xs.length c2 (bolV xs) rfl (by simp [bolV]) (own_none2 HC.out.1) (own_cells HC.out.1) (bol_one xs) ⟨by omega, by omega⟩ ?_; intro A6 c6 w6 ho6 hc6 hg6; have HO6 := Lib.hid ho6; have HC6 := Lib.hid hc6; have HG6 := Lib.hid hg6; clear ho6 hc6 hg6)
            have hyl : (os ++ xs).length = os.length + xs.length := List.length_append
            have HN : Hid (DskA true w2 w6 gu kb n t A' S ∧ w6.ownsRow 0 4 1 (.slice A6 (os ++ xs).length c6) (os ++ xs).length (bolV (os ++ xs)) ∧ ∀ j, (Value.slice A6 (os ++ xs).length c6).ownBlock = some j → w2.heap.size ≤ j) := by
              refine ⟨HC.out.2.1.row HC.out.2.2 HNW.out HC6.out, ?_, fun j hj => ?_⟩
              · rw [hyl]; simpa [bolV] using HO6.out
              · rw [hyl] at hj
                rcases HG6.out j hj with q | q
                · exact HNW.out j q
                · rw [q]; exact HC.out.2.1.ext.size
            rw [← hyl]
            clear HO6 HC6 HG6 HC HNW
            refine (da_save HN.out.1 (by omega)).mono ?_
            rintro e w7 ⟨⟨rfl, h7⟩ | ⟨_, hb, _⟩, hk7⟩
            case inr => cases hb
            have H7 : Hid (DskA true w2 w7 gu kb n (t + 1) A' A' ∧ w7.ownsRow 0 4 1 (.slice A6 (os ++ xs).length c6) (os ++ xs).length (bolV (os ++ xs))) := ⟨h7, hk7.own HN.out.2.1⟩
            have HNN := Lib.hid HN.out.2.2
            have HCR := Lib.hid (da_crash h7 none 0 0 [] (.inl rfl) rfl (by unfold maxLen; omega))
            clear h7 hk7 HN
            go_wp2_with fail
            refine HCR.out.mono ?_
            rintro e w8 ⟨rfl, h8, hk8⟩
            have H8 : Hid (SkA true w2 w8 gu n (t + 1) A' ∧ w8.ownsRow 0 4 1 (.slice A6 (os ++ xs).length c6) (os ++ xs).length (bolV (os ++ xs))) := ⟨h8, hk8.own H7.out.2⟩
            clear h8 hk8 HCR H7
            go_wp2_with fail
            refine (da_open H8.out.1).mono ?_
            rintro e w9 ⟨kb9, rfl, h9, hx9⟩
            have H9 : Hid (TaR w2 w9 gu kb9 n (t + 1) A' A' l (at_ + d) (os ++ xs) (.slice A6 (os ++ xs).length c6)) := ⟨h9, HAG.out, by rw [HAD.out, ← HOS.out], own_chg H8.out.2 (Chg.of_below hx9) (fun k hk => by have := own_lt H8.out.2 hk; omega), HNN.out⟩
            clear h9 hx9 H8 HNN HAD HOS HDN HAG
            go_wp2
            go_roundw
            case rel => exact ⟨i + 1, t + 1, kb9, at_ + d, A', A', os ++ xs, A6, c6, by omega, by omega, by omega, hto2, rfl, by rw [List.length_append], by go_num, by go_num, H9.out⟩
            case measure => simp [intOf]; omega
    · have HAS := Lib.hid HR.out.eqs
      have HRW : Hid (BoolsAt wr Ao os) := (BoolsAt.of_own HR.out.row).1
      have HXT : Hid (Ext w2 wr) := HR.out.dk.ext
      have hos : os.length ≤ 120 := by
        rw [HR.out.eqs]
        have := AK.asked_len l 0 at_
        omega
      clear HR
      have hii : (i ≤ km ∧ ¬ i < 20) ∨ ¬ i ≤ km := by omega
      clear c
      by_cases hlt : at_ < len1
      · have y0 : (at_ : Int) < (len1 : Int) := by omega
        rcases hii with ⟨c1, c2⟩ | c1
        · have z1 : (i : Int) ≤ (km : Int) := by omega
          have z2 : ¬ (i : Int) < 20 := by omega
          go_wp2
          go_ret
          exact ⟨rfl, X2.out.trans HXT.out⟩
        · have z1 : ¬ (i : Int) ≤ (km : Int) := by omega
          go_wp2
          go_ret
          exact ⟨rfl, X2.out.trans HXT.out⟩
      · obtain rfl : at_ = len1 := by omega
        have hbe : os = ws := by rw [HAS.out, ← HWS.out]; unfold AK.answers; rw [HE1.out.2.1]
        subst hbe
        have HWr := Lib.hid (HW2.out.ext HXT.out)
        clear HAS HWS
        rcases hii with ⟨c1, c2⟩ | c1
        · have z1 : (i : Int) ≤ (km : Int) := by omega
          have z2 : ¬ (i : Int) < 20 := by omega
          go_wp2_with fail
          refine (bools_any wr Ao Aw os.length os.length co cw os os HRW.out HWr.out rfl rfl (by omega) (by omega) true (by simp)).mono ?_
          rintro e w6 ⟨rfl, hx6⟩
          have HX6 : Hid (Ext w w6) := (X2.out.trans HXT.out).trans hx6
          clear hx6
          go_wp2
          go_ret
          exact ⟨rfl, HX6.out⟩
        · have z1 : ¬ (i : Int) ≤ (km : Int) := by omega
          go_wp2_with fail
          refine (bools_any wr Ao Aw os.length os.length co cw os os HRW.out HWr.out rfl rfl (by omega) (by omega) true (by simp)).mono ?_
          rintro e w6 ⟨rfl, hx6⟩
          have HX6 : Hid (Ext w w6) := (X2.out.trans HXT.out).trans hx6
          clear hx6
          go_wp2
          go_ret
          exact ⟨rfl, HX6.out⟩
end Go.Proofs.YthgniehfejklhaaGreat
