/-
  Walk of desk's Do. Conditions: the desk, its graph and the events lie as said; the events' numbers are int's.
-/
import Derived.Test.YtckcbfnffmohgaaGreatTt18
import Derived.Test.YtckcbfnffmohgaaGreatTt19
import Derived.Deep.RegionHeld3
namespace Go.Proofs.YtckcbfnffmohgaaGreat
open Go Go.RowKit SQ TR DF PD PT
set_option linter.unusedVariables false

/-- A row of events is read; their numbers are int's. -/
def EvRow (w : World) (A : Option Addr) (l : List AK.Ev) : Prop := l = [] ∨ ∃ b off, A = some ⟨b, off, none⟩ ∧ b < w.heap.size ∧ ∀ (i : Nat) (e : AK.Ev), l[i]? = some e → w.cell? ⟨b, off + i * 3, none⟩ = some (.int .i64 e.w) ∧ w.cell? ⟨b, off + i * 3 + 1, none⟩ = some (.int .i64 e.a) ∧ w.cell? ⟨b, off + i * 3 + 2, none⟩ = some (.int .i64 e.b)
def EvIn (l : List AK.Ev) : Prop := ∀ e ∈ l, (-9223372036854775808 ≤ e.a ∧ e.a ≤ 9223372036854775807) ∧ (-9223372036854775808 ≤ e.b ∧ e.b ≤ 9223372036854775807)
theorem EvRow.ext {w w' : World} {A : Option Addr} {l : List AK.Ev} (h : EvRow w A l) (hx : Ext w w') : EvRow w' A l := by
  rcases h with h | ⟨b, off, rfl, hl, he⟩
  · exact .inl h
  · exact .inr ⟨b, off, rfl, Nat.lt_of_lt_of_le hl hx.size, fun i e hi => ⟨(hx.cell (p := ⟨b, _, none⟩) hl).trans (he i e hi).1, (hx.cell (p := ⟨b, _, none⟩) hl).trans (he i e hi).2.1, (hx.cell (p := ⟨b, _, none⟩) hl).trans (he i e hi).2.2⟩⟩
theorem EvRow.at_ {w : World} {A : Option Addr} {l : List AK.Ev} {i : Nat} (h : EvRow w A l) (hi : i < l.length) : ∃ (b off : Nat) (W x y : Int), A = some ⟨b, off, none⟩ ∧ l[i]? = some ⟨W, x, y⟩ ∧ w.cell? ⟨b, off + i * 3, none⟩ = some (.int .i64 W) ∧ w.cell? ⟨b, off + i * 3 + 1, none⟩ = some (.int .i64 x) ∧ w.cell? ⟨b, off + i * 3 + 2, none⟩ = some (.int .i64 y) := by
  rcases h with h | ⟨b, off, rfl, hb, hc⟩
  · subst h; simp at hi
  · have hx := List.getElem?_eq_getElem hi
    exact ⟨b, off, l[i].w, l[i].a, l[i].b, rfl, hx, hc i _ hx⟩
theorem infoB : (Tryz.prog.info? 4).map (fun i => (i.zero, i.size, i.bytes)) = some (some (.bool false), 1, 1) := by kernel_rfl
def bolV (xs : List Bool) : List Value := xs.map Value.bool
/-- A graph of the call's own beside the answers so far. -/
structure DoR (w wr : World) (g0 n N : Nat) (A : List AK.Ed) (vO : Value) (xs : List Bool) : Prop where
  g : ∃ (G : GrP) (f : AK.Ed → GM.St), G.gb = g0 ∧ GcS w wr G n N A f
  row : wr.ownsRow 0 4 1 vO xs.length (bolV xs)
  new : ∀ j, vO.ownBlock = some j → w.heap.size ≤ j
section
variable {w wr w' W w5 : World} {g0 n N N' g c : Nat} {A A' : List AK.Ed} {vO : Value} {xs : List Bool} {b : Bool}
theorem own_blkB {w : World} {base : Nat} {e : TypeId} {size n : Nat} {v : Value} {xs : List Value} (h : w.ownsRow base e size v n xs) {k : Nat} (hk : v.ownBlock = some k) : ∃ cs, Blk w k e cs := by
  rcases h.2 with ⟨rfl, _⟩ | ⟨g, cap, cur, rfl, _, hg, _⟩
  · simp [Value.ownBlock] at hk
  · simp [Value.ownBlock] at hk; subst hk; exact ⟨_, hg⟩
theorem DoR.moved (h : DoR w wr g0 n N A vO xs) (hx : Ext wr w') : DoR w w' g0 n N A vO xs := by
  obtain ⟨G, f, h1, h2⟩ := h.g
  exact ⟨⟨G, f, h1, h2.moved hx⟩, own_chg h.row (Chg.of_below hx) (fun k hk => by have := own_lt h.row hk; omega), h.new⟩
theorem DoR.ext (h : DoR w wr g0 n N A vO xs) : Ext w wr := by obtain ⟨G, f, _, h2⟩ := h.g; exact h2.ext
theorem DoR.push (h : DoR w wr g0 n N A vO xs) (hW : Ext wr W) (ho : w5.ownsRow 0 4 1 (.slice (some ⟨g, 0, none⟩) (xs.length + 1) c) (xs.length + 1) (bolV xs ++ [.bool b])) (hc : Chg (fun j => vO.ownBlock = some j) W w5) (hat : vO.ownBlock = some g ∨ g = W.heap.size) :
    DoR w w5 g0 n N A (.slice (some ⟨g, 0, none⟩) (xs.length + 1) c) (xs ++ [b]) := by
  have h1 := h.moved hW
  obtain ⟨G, f, hG, gg⟩ := h1.g
  have off : ∀ k, vO.ownBlock = some k → ¬ G.T k := fun k hk => by
    obtain ⟨cs, hb⟩ := own_blkB h1.row hk
    exact gg.at_.m.notyp (by decide) hb
  refine ⟨⟨G, f, hG, ⟨gg.at_.m.chg hc (fun k hk hs => off k hs (.inl hk)) (fun i F hi hs => off _ hs (.inr ⟨i, F, hi, rfl⟩)) (fun k hk cs hb => own_ne h1.row hb (by decide) hk), gg.at_.k, gg.at_.few, gg.at_.nN⟩, gg.ext.chg_new hc (fun k hk => h.new k hk), gg.new⟩, ?_, fun j hj => ?_⟩
  · unfold bolV at ho ⊢
    rw [List.length_append, List.map_append]
    exact ho
  · obtain rfl : g = j := by simpa [Value.ownBlock] using hj
    rcases hat with hat | hat
    · exact h.new _ hat
    · have := gg.ext.size; omega
theorem DoR.rowq {q : Nat} (h : DoR w wr g0 n N A vO xs) (hq : xs.length = q) : wr.ownsRow 0 4 1 vO q (bolV xs) := by subst hq; exact h.row
theorem DoR.pushq {q : Nat} (h : DoR w wr g0 n N A vO xs) (hq : xs.length = q) (hW : Ext wr W) (ho : w5.ownsRow 0 4 1 (.slice (some ⟨g, 0, none⟩) (q + 1) c) (q + 1) (bolV xs ++ [.bool b])) (hc : Chg (fun j => vO.ownBlock = some j) W w5) (hat : vO.ownBlock = some g ∨ g = W.heap.size) :
    DoR w w5 g0 n N A (.slice (some ⟨g, 0, none⟩) (q + 1) c) (xs ++ [b]) := by subst hq; exact h.push hW ho hc hat
/-- An act is done: the graph is turned. -/
theorem DoR.act (h : DoR w wr g0 n N A vO xs) (hN : N + 4000 < 1000000) (hl : A.length ≤ 200) (V x y : Int) (hx : -9223372036854775808 ≤ x ∧ x ≤ 9223372036854775807) (hy : -9223372036854775808 ≤ y ∧ y ≤ 9223372036854775807) :
    Calls Tryz.prog (actF V) #[.pointer (some ⟨g0, 0, none⟩), .agg #[.int .i64 V, .int .i64 x, .int .i64 y]] wr fun e w' => ∃ b : Bool, e = .returned (.tuple #[.bool b, errOf (DS.flt n A V x y : Nat)]) ∧ (DS.flt n A V x y = 0 → V = 3 → b = DS.ansB A x y) ∧
      (DS.flt n A V x y = 0 → DoR w w' g0 n (N + 4000) (DS.nxt A V x y) vO xs) ∧ (∀ k cs, Blk wr k 62 cs → Blk w' k 62 cs) ∧ Ext w w' := by
  obtain ⟨G, f, rfl, h2⟩ := h.g
  have off : ∀ k, vO.ownBlock = some k → ¬ G.T k := fun k hk => by
    obtain ⟨cs, hb⟩ := own_blkB h.row hk
    exact h2.at_.m.notyp (by decide) hb
  refine (act_any h2.at_ hN hl V x y hx hy).mono ?_
  rintro e w' ⟨b, rfl, hb, G', f', q1, q2⟩
  refine ⟨b, rfl, fun hf hV => DS.ansB_iff (hb hf hV), fun hf => ?_, fun k cs hb => hb.chg q2.chg (fun hs => h2.at_.m.notyp (by decide) hb (.inl hs)), h2.ext.chg_new q2.chg (fun k hk => h2.new k (.inl hk))⟩
  rw [if_pos hf] at q1
  exact ⟨⟨G', f', q2.gb, h2.step q1 q2⟩, own_chg h.row q2.chg (fun k hk hs => off k hk (.inl hs)), h.new⟩
end
/-- What Do leaves. -/
def DoPost (w : World) (kb gs n : Nat) (A : List AK.Ed) (l : List AK.Ev) (e : Ending) (w' : World) : Prop :=
  (∃ k : Nat, ((120 < l.length ∧ k = 3) ∨ (l.length ≤ 120 ∧ ∃ i V x y, DS.Okay n l A i ∧ l[i]? = some (⟨V, x, y⟩ : AK.Ev) ∧ DS.flt n (DS.run n l A i).1 V x y = k ∧ k ≠ 0)) ∧ e = .returned (.tuple #[.slice none 0 0, errV k]) ∧ Ext w w') ∨
  (l.length ≤ 120 ∧ DS.Okay n l A l.length ∧ ∃ (Ao : Option Addr) (c N' : Nat) (G' : GrP) (f' : AK.Ed → GM.St), e = .returned (.tuple #[.slice Ao (DS.run n l A l.length).2.length c, .nilIface]) ∧
    w'.ownsRow 0 4 1 (.slice Ao (DS.run n l A l.length).2.length c) (DS.run n l A l.length).2.length (bolV (DS.run n l A l.length).2) ∧ (∀ j, (Value.slice Ao (DS.run n l A l.length).2.length c).ownBlock = some j → w.heap.size ≤ j) ∧
    GrI w' G' n N' (DS.run n l A l.length).1 f' ∧ (∀ k, G'.T k → w.heap.size ≤ k) ∧ Blk w' kb 108 (dkC gs G'.gb n) ∧ Chg (fun k => k = kb) w w')
theorem blk_ty {w : World} {k : Nat} {t t' : TypeId} {cs cs' : Array Value} (h : Blk w k t cs) (h' : Blk w k t' cs') : t = t' := by
  unfold Blk at h h'
  rw [h] at h'
  injection h' with h'
  injection h' with h1 h2
theorem run_le {n : Nat} {l : List AK.Ev} {A : List AK.Ed} (hA : A.length ≤ 200) : ∀ i, DS.Okay n l A i → (DS.run n l A i).1.length ≤ 200
  | 0, _ => hA
  | i + 1, h => by
    have ih := run_le hA i fun j e hj => h j e (Nat.lt_succ_of_lt hj)
    cases he : l[i]? with
    | none => rw [DS.run, he]; exact ih
    | some e =>
      have hf := h i e (Nat.lt_succ_self i) he
      rw [DS.run_next he]
      unfold DS.nxt
      by_cases h1 : e.w = 1
      · simp only [h1, if_true]
        rw [putE_length]
        unfold DS.flt at hf
        split at hf
        · exact absurd hf (by decide)
        · have hf2 : addFault n (DS.run n l A i).1 e.a e.b = 0 := by first | exact hf | (rw [if_pos h1] at hf; exact hf)
          have := (addFault_0 hf2).2.2.2.2
          omega
      · simp only [h1, if_false]
        split
        · exact Nat.le_trans (cutE_len_le _ _) ih
        · exact ih
set_option maxHeartbeats 4000000 in
set_option maxRecDepth 100000 in
theorem ddo_any (w : World) (kb gs n N : Nat) (G : GrP) (A : List AK.Ed) (f : AK.Ed → GM.St) (hb : Blk w kb 108 (dkC gs G.gb n)) (h : GrI w G n N A f) (hA : A.length ≤ 200) (Ae : Option Addr) (m c : Nat) (l : List AK.Ev) (hl : l.length = m) (hE : EvRow w Ae l) (hin : EvIn l) :
    Calls Tryz.prog 19 #[.pointer (some ⟨kb, 0, none⟩), .slice Ae m c] w (DoPost w kb gs n A l) := by
  have HL := Lib.hid hl
  by_cases hm : 120 < m
  · have HP : Hid (DoPost w kb gs n A l (.returned (.tuple #[.slice none 0 0, errV 3])) w) := .inl ⟨3, .inl ⟨by omega, rfl⟩, rfl, Ext.refl _⟩
    have zm : (120 : Int) < (m : Int) := by omega
    clear hb h hE hin
    go_enter Tryz.func19, Tryz.ntmps19
    go_wp2
    go_ret2
    exact HP.out
  have hn60 := h.m.hn
  have HDG := Lib.hid (dgraph_any w kb gs n N G A f hb h hA)
  have HB := Lib.hid hb
  have HE := Lib.hid hE
  have HIN := Lib.hid hin
  have zm : ¬ (120 : Int) < (m : Int) := by omega
  clear hb h hE hin hl
  go_enter Tryz.func19, Tryz.ntmps19
  go_wp2_with fail
  refine HDG.out.mono ?_
  rintro e w1 ⟨G1, f1, rfl, h1⟩
  obtain ⟨g1, hg1⟩ : ∃ g, G1.gb = g := ⟨_, rfl⟩
  have R0 : Hid (DS.Okay n l A 0 ∧ DoR w w1 g1 n (n + 400 + 4000 * 0) (DS.run n l A 0).1 (.slice none 0 0) (DS.run n l A 0).2) := ⟨DS.Okay.zero _ _ _, ⟨⟨G1, f1, hg1, h1.mono (by omega)⟩, World.ownsRow_nil _ _ _ _, fun j hj => by simp [Value.ownBlock] at hj⟩⟩
  rw [hg1]
  clear h1 hg1 HDG
  go_wp2
  go_loopw [7, 20] (fun v7 v20 wr => ∃ (i q : Nat) (Ao : Option Addr) (co : Nat), i ≤ m ∧ q ≤ i ∧ v20 = .int .i64 i ∧ v7 = .slice Ao q co ∧ Hid ((DS.run n l A i).2.length = q ∧ DS.Okay n l A i ∧ DoR w wr g1 n (n + 400 + 4000 * i) (DS.run n l A i).1 (.slice Ao q co) (DS.run n l A i).2)) (fun _ v20 _ => m - (intOf v20).toNat)
  case atStart => exact ⟨0, 0, none, 0, Nat.zero_le _, Nat.le_refl _, rfl, rfl, rfl, R0.out⟩
  case round =>
    as_aux_lemma =>
    obtain ⟨i, q, Ao, co, hi, hq, rfl, rfl, HR⟩ := hrel
    clear R0
    by_cases hlt : i < m
    · obtain ⟨b, off, V, x, y, rfl, hx, c0, c1, c2⟩ := (HE.out.ext HR.out.2.2.ext).at_ (show i < l.length by rw [HL.out]; exact hlt)
      have hin := HIN.out _ (List.mem_of_getElem? hx)
      simp only at hin
      have HXX := Lib.hid hx
      have hA2 := run_le (n := n) (l := l) hA i HR.out.2.1
      have z0 : (0 : Int) ≤ (i : Int) := by omega
      have z1 : (i : Int) < (m : Int) := by omega
      obtain ⟨kf, hkf⟩ : ∃ k, DS.flt n (DS.run n l A i).1 V x y = k := ⟨_, rfl⟩
      have HAC : Hid (∀ W, Ext wr W → Calls Tryz.prog (actF V) #[.pointer (some ⟨g1, 0, none⟩), .agg #[.int .i64 V, .int .i64 x, .int .i64 y]] W fun e w' => ∃ b : Bool, e = .returned (.tuple #[.bool b, errOf (kf : Nat)]) ∧ (kf = 0 → V = 3 → b = DS.ansB (DS.run n l A i).1 x y) ∧
          (kf = 0 → DoR w w' g1 n (n + 400 + 4000 * (i + 1)) (DS.nxt (DS.run n l A i).1 V x y) (.slice Ao q co) (DS.run n l A i).2) ∧ (∀ k cs, Blk W k 62 cs → Blk w' k 62 cs) ∧ Ext w w') := fun W hW => by
        have := (HR.out.2.2.moved hW).act (by omega) hA2 V x y hin.1 hin.2
        rw [hkf] at this
        exact this
      have HKF := Lib.hid hkf
      have HOF : Hid (∀ W, Calls Tryz.prog 49 #[.agg #[.int .i64 V, .int .i64 x, .int .i64 y]] W fun e w' => e = .returned (.func (.func (actF V)) #[] #[]) ∧ Ext W w') := fun W => of_act W V x y
      have H0 := HR.out
      have HR0 := Lib.hid H0
      clear hx hin hkf hA2 H0
      have HV4 : V = 1 ∨ V = 2 ∨ V = 3 ∨ (V ≠ 1 ∧ V ≠ 2 ∧ V ≠ 3) := by omega
      by_cases hk : kf = 0
      · subst hk
        have hVin : V = 1 ∨ V = 2 ∨ V = 3 := by
          have hf := HKF.out
          unfold DS.flt at hf
          split at hf
          · exact absurd hf (by decide)
          · omega
        have HAC0 : Hid (∀ W, Ext wr W → Calls Tryz.prog (actF V) #[.pointer (some ⟨g1, 0, none⟩), .agg #[.int .i64 V, .int .i64 x, .int .i64 y]] W fun e w' => ∃ b : Bool, e = .returned (.tuple #[.bool b, .nilIface]) ∧ (V = 3 → b = DS.ansB (DS.run n l A i).1 x y) ∧
            DoR w w' g1 n (n + 400 + 4000 * (i + 1)) (DS.nxt (DS.run n l A i).1 V x y) (.slice Ao q co) (DS.run n l A i).2 ∧ (∀ k cs, Blk W k 62 cs → Blk w' k 62 cs)) := fun W hW => by
          refine (HAC.out W hW).mono ?_
          rintro e w' ⟨b, rfl, r1, r2, r3, _⟩
          exact ⟨b, rfl, r1 rfl, r2 rfl, r3⟩
        have HNX : Hid (∀ (w9 : World) (vO : Value) (xs : List Bool), xs = (DS.run n l A i).2 ++ DS.out1 (DS.run n l A i).1 ⟨V, x, y⟩ → DoR w w9 g1 n (n + 400 + 4000 * (i + 1)) (DS.nxt (DS.run n l A i).1 V x y) vO xs → (DS.run n l A (i + 1)).2 = xs ∧ DS.Okay n l A (i + 1) ∧ DoR w w9 g1 n (n + 400 + 4000 * (i + 1)) (DS.run n l A (i + 1)).1 vO (DS.run n l A (i + 1)).2) := fun w9 vO xs hxs hd => by
          rw [DS.run_next HXX.out, ← hxs]
          exact ⟨rfl, HR0.out.2.1.next HXX.out HKF.out, hd⟩
        clear HAC HKF
        rcases hVin with rfl | rfl | rfl
        · have HOF1 : Hid (∀ W, Calls Tryz.prog 49 #[.agg #[.int .i64 1, .int .i64 x, .int .i64 y]] W fun e w' => e = .returned (.func (.func 75) #[] #[]) ∧ Ext W w') := HOF.out
          have HAC1 : Hid (∀ W, Ext wr W → Calls Tryz.prog 75 #[.pointer (some ⟨g1, 0, none⟩), .agg #[.int .i64 1, .int .i64 x, .int .i64 y]] W fun e w' => ∃ b : Bool, e = .returned (.tuple #[.bool b, .nilIface]) ∧ ((1 : Int) = 3 → b = DS.ansB (DS.run n l A i).1 x y) ∧
            DoR w w' g1 n (n + 400 + 4000 * (i + 1)) (DS.nxt (DS.run n l A i).1 1 x y) (.slice Ao q co) (DS.run n l A i).2 ∧ (∀ k cs, Blk W k 62 cs → Blk w' k 62 cs)) := HAC0.out
          clear HOF HAC0 HR
          go_upto_region 8 with fail
          have BG := Lib.hid (Blk.new wr 62 #[.int .i64 1, .int .i64 x, .int .i64 y])
          have hE3 : Ext wr (wr.alloc (.cells #[.int .i64 1, .int .i64 x, .int .i64 y] 62)) := Ext.alloc wr _
          obtain ⟨gE, hGe⟩ : ∃ G, wr.heap.size = G := ⟨_, rfl⟩
          rw [hGe] at BG ⊢
          clear hGe
          generalize wr.alloc (.cells #[.int .i64 1, .int .i64 x, .int .i64 y] 62) = w3 at BG hE3 ⊢
          have HKP : Hid (∀ W, Blk W gE 62 #[.int .i64 1, .int .i64 x, .int .i64 y] → Blk W gE 62 #[.int .i64 1, .int .i64 x, .int .i64 y] ∧ W.cell? ⟨gE, 0, none⟩ = some (.int .i64 1) ∧ W.cell? ⟨gE, 1, none⟩ = some (.int .i64 x) ∧ W.cell? ⟨gE, 2, none⟩ = some (.int .i64 y)) := fun W hB => ⟨hB, hB.cell 0, hB.cell 1, hB.cell 2⟩
          have hb3 := BG.out
          have u0 := (HKP.out _ hb3).2.1
          have u1 := (HKP.out _ hb3).2.2.1
          have u2 := (HKP.out _ hb3).2.2.2
          clear c0 c1 c2
          go_region_held3 (fun W => Blk W gE 62 #[.int .i64 1, .int .i64 x, .int .i64 y] ∧ W.cell? ⟨gE, 0, none⟩ = some (.int .i64 1) ∧ W.cell? ⟨gE, 1, none⟩ = some (.int .i64 x) ∧ W.cell? ⟨gE, 2, none⟩ = some (.int .i64 y))
            (exact HKP.out _ (by first | exact hb3 | assumption | exact fst_ (by assumption)))
            (first
              | (go_at_call 49; refine (HOF1.out _).mono ?_; rintro e w4 ⟨rfl, hx4⟩; have hE4 : Ext wr w4 := Ext.trans hE3 (Ext.trans (Ext.drew _) hx4); have hb4 : Blk w4 gE 62 #[.int .i64 1, .int .i64 x, .int .i64 y] := (Blk.drew hb3).chg (Chg.of_below hx4) (by have := (Blk.drew hb3).lt; omega); clear hx4)
              | (go_at_call 75; refine (HAC1.out _ hE4).mono ?_; rintro e w5 ⟨b, rfl, r1, r2, r3⟩; have hb5 := r3 _ _ hb4; have HR1 := Lib.hid r1; have HR2 := Lib.hid r2; clear r1 r2 r3)
              | fail)
          rename_i hHeld
          have v0 := (HKP.out _ hb5).2.1
          have HN := Lib.hid (HNX.out w5 (.slice Ao q co) _ (by unfold DS.out1; rw [if_neg (show ¬ (1 : Int) = 3 by decide), List.append_nil]) HR2.out)
          have HQ := Lib.hid HR0.out.1
          clear hHeld HR1 HR2 HNX HKP hb3 hb4 hb5 u0 u1 u2 hE3 hE4
          go_wp2
          go_roundw
          case rel => exact ⟨i + 1, q, Ao, co, by omega, by omega, by go_num, rfl, by rw [HN.out.1, HQ.out], HN.out.2⟩
          case measure => simp [intOf]; omega
        · have HOF1 : Hid (∀ W, Calls Tryz.prog 49 #[.agg #[.int .i64 2, .int .i64 x, .int .i64 y]] W fun e w' => e = .returned (.func (.func 76) #[] #[]) ∧ Ext W w') := HOF.out
          have HAC1 : Hid (∀ W, Ext wr W → Calls Tryz.prog 76 #[.pointer (some ⟨g1, 0, none⟩), .agg #[.int .i64 2, .int .i64 x, .int .i64 y]] W fun e w' => ∃ b : Bool, e = .returned (.tuple #[.bool b, .nilIface]) ∧ ((2 : Int) = 3 → b = DS.ansB (DS.run n l A i).1 x y) ∧
            DoR w w' g1 n (n + 400 + 4000 * (i + 1)) (DS.nxt (DS.run n l A i).1 2 x y) (.slice Ao q co) (DS.run n l A i).2 ∧ (∀ k cs, Blk W k 62 cs → Blk w' k 62 cs)) := HAC0.out
          clear HOF HAC0 HR
          go_upto_region 8 with fail
          have BG := Lib.hid (Blk.new wr 62 #[.int .i64 2, .int .i64 x, .int .i64 y])
          have hE3 : Ext wr (wr.alloc (.cells #[.int .i64 2, .int .i64 x, .int .i64 y] 62)) := Ext.alloc wr _
          obtain ⟨gE, hGe⟩ : ∃ G, wr.heap.size = G := ⟨_, rfl⟩
          rw [hGe] at BG ⊢
          clear hGe
          generalize wr.alloc (.cells #[.int .i64 2, .int .i64 x, .int .i64 y] 62) = w3 at BG hE3 ⊢
          have HKP : Hid (∀ W, Blk W gE 62 #[.int .i64 2, .int .i64 x, .int .i64 y] → Blk W gE 62 #[.int .i64 2, .int .i64 x, .int .i64 y] ∧ W.cell? ⟨gE, 0, none⟩ = some (.int .i64 2) ∧ W.cell? ⟨gE, 1, none⟩ = some (.int .i64 x) ∧ W.cell? ⟨gE, 2, none⟩ = some (.int .i64 y)) := fun W hB => ⟨hB, hB.cell 0, hB.cell 1, hB.cell 2⟩
          have hb3 := BG.out
          have u0 := (HKP.out _ hb3).2.1
          have u1 := (HKP.out _ hb3).2.2.1
          have u2 := (HKP.out _ hb3).2.2.2
          clear c0 c1 c2
          go_region_held3 (fun W => Blk W gE 62 #[.int .i64 2, .int .i64 x, .int .i64 y] ∧ W.cell? ⟨gE, 0, none⟩ = some (.int .i64 2) ∧ W.cell? ⟨gE, 1, none⟩ = some (.int .i64 x) ∧ W.cell? ⟨gE, 2, none⟩ = some (.int .i64 y))
            (exact HKP.out _ (by first | exact hb3 | assumption | exact fst_ (by assumption)))
            (first
              | (go_at_call 49; refine (HOF1.out _).mono ?_; rintro e w4 ⟨rfl, hx4⟩; have hE4 : Ext wr w4 := Ext.trans hE3 (Ext.trans (Ext.drew _) hx4); have hb4 : Blk w4 gE 62 #[.int .i64 2, .int .i64 x, .int .i64 y] := (Blk.drew hb3).chg (Chg.of_below hx4) (by have := (Blk.drew hb3).lt; omega); clear hx4)
              | (go_at_call 76; refine (HAC1.out _ hE4).mono ?_; rintro e w5 ⟨b, rfl, r1, r2, r3⟩; have hb5 := r3 _ _ hb4; have HR1 := Lib.hid r1; have HR2 := Lib.hid r2; clear r1 r2 r3)
              | fail)
          rename_i hHeld
          have v0 := (HKP.out _ hb5).2.1
          have HN := Lib.hid (HNX.out w5 (.slice Ao q co) _ (by unfold DS.out1; rw [if_neg (show ¬ (2 : Int) = 3 by decide), List.append_nil]) HR2.out)
          have HQ := Lib.hid HR0.out.1
          clear hHeld HR1 HR2 HNX HKP hb3 hb4 hb5 u0 u1 u2 hE3 hE4
          go_wp2
          go_roundw
          case rel => exact ⟨i + 1, q, Ao, co, by omega, by omega, by go_num, rfl, by rw [HN.out.1, HQ.out], HN.out.2⟩
          case measure => simp [intOf]; omega
        · have HOF1 : Hid (∀ W, Calls Tryz.prog 49 #[.agg #[.int .i64 3, .int .i64 x, .int .i64 y]] W fun e w' => e = .returned (.func (.func 77) #[] #[]) ∧ Ext W w') := HOF.out
          have HAC1 : Hid (∀ W, Ext wr W → Calls Tryz.prog 77 #[.pointer (some ⟨g1, 0, none⟩), .agg #[.int .i64 3, .int .i64 x, .int .i64 y]] W fun e w' => ∃ b : Bool, e = .returned (.tuple #[.bool b, .nilIface]) ∧ ((3 : Int) = 3 → b = DS.ansB (DS.run n l A i).1 x y) ∧
            DoR w w' g1 n (n + 400 + 4000 * (i + 1)) (DS.nxt (DS.run n l A i).1 3 x y) (.slice Ao q co) (DS.run n l A i).2 ∧ (∀ k cs, Blk W k 62 cs → Blk w' k 62 cs)) := HAC0.out
          clear HOF HAC0 HR
          go_upto_region 8 with fail
          have BG := Lib.hid (Blk.new wr 62 #[.int .i64 3, .int .i64 x, .int .i64 y])
          have hE3 : Ext wr (wr.alloc (.cells #[.int .i64 3, .int .i64 x, .int .i64 y] 62)) := Ext.alloc wr _
          obtain ⟨gE, hGe⟩ : ∃ G, wr.heap.size = G := ⟨_, rfl⟩
          rw [hGe] at BG ⊢
          clear hGe
          generalize wr.alloc (.cells #[.int .i64 3, .int .i64 x, .int .i64 y] 62) = w3 at BG hE3 ⊢
          have HKP : Hid (∀ W, Blk W gE 62 #[.int .i64 3, .int .i64 x, .int .i64 y] → Blk W gE 62 #[.int .i64 3, .int .i64 x, .int .i64 y] ∧ W.cell? ⟨gE, 0, none⟩ = some (.int .i64 3) ∧ W.cell? ⟨gE, 1, none⟩ = some (.int .i64 x) ∧ W.cell? ⟨gE, 2, none⟩ = some (.int .i64 y)) := fun W hB => ⟨hB, hB.cell 0, hB.cell 1, hB.cell 2⟩
          have hb3 := BG.out
          have u0 := (HKP.out _ hb3).2.1
          have u1 := (HKP.out _ hb3).2.2.1
          have u2 := (HKP.out _ hb3).2.2.2
          clear c0 c1 c2
          go_region_held3 (fun W => Blk W gE 62 #[.int .i64 3, .int .i64 x, .int .i64 y] ∧ W.cell? ⟨gE, 0, none⟩ = some (.int .i64 3) ∧ W.cell? ⟨gE, 1, none⟩ = some (.int .i64 x) ∧ W.cell? ⟨gE, 2, none⟩ = some (.int .i64 y))
            (exact HKP.out _ (by first | exact hb3 | assumption | exact fst_ (by assumption)))
            (first
              | (go_at_call 49; refine (HOF1.out _).mono ?_; rintro e w4 ⟨rfl, hx4⟩; have hE4 : Ext wr w4 := Ext.trans hE3 (Ext.trans (Ext.drew _) hx4); have hb4 : Blk w4 gE 62 #[.int .i64 3, .int .i64 x, .int .i64 y] := (Blk.drew hb3).chg (Chg.of_below hx4) (by have := (Blk.drew hb3).lt; omega); clear hx4)
              | (go_at_call 77; refine (HAC1.out _ hE4).mono ?_; rintro e w5 ⟨b, rfl, r1, r2, r3⟩; have hb5 := r3 _ _ hb4; have HR1 := Lib.hid r1; have HR2 := Lib.hid r2; clear r1 r2 r3)
              | fail)
          rename_i hHeld
          have v0 := (HKP.out _ hb5).2.1
          have HB1 : Hid (b = DS.ansB (DS.run n l A i).1 x y) := HR1.out trivial
          have HQ := Lib.hid HR0.out.1
          clear hHeld HR1 HKP hb3 hb4 hb5 u0 u1 u2 hE3 hE4
          go_wp2_with (at_builtin; refine wpList_push _ rfl (.tmp 38) (.tmp 40) 58 rfl 4 (.bool false) 1 Tryz.underlying58 infoB rfl (.slice Ao q co) q (bolV (DS.run n l A i).2) rfl ((HR2.out.moved (Ext.alloc _ _)).rowq HQ.out) ⟨by omega, by omega⟩ (.bool b) w5.heap.size rfl (cell_new1 rfl _ _) rfl ?_; intro g5 c5 w6 ho5 hc5 hat5 _; have HP := Lib.hid (HR2.out.pushq (b := b) HQ.out (Ext.alloc _ _) ho5 hc5 hat5); clear ho5 hc5 hat5)
          have HN := Lib.hid (HNX.out w6 _ _ (by unfold DS.out1; rw [if_pos rfl, HB1.out]) HP.out)
          go_roundw
          case rel => exact ⟨i + 1, q + 1, some ⟨g5, 0, none⟩, c5, by omega, by omega, by go_num, rfl, by rw [HN.out.1, List.length_append, HQ.out]; rfl, HN.out.2.1, HN.out.2.2⟩
          case measure => simp [intOf]; omega
      · have HPO : Hid (∀ w9, Ext w w9 → DoPost w kb gs n A l (.returned (.tuple #[.slice none 0 0, errV kf])) w9) := fun w9 hx9 => .inl ⟨kf, .inr ⟨by have := HL.out; omega, i, V, x, y, HR0.out.2.1, HXX.out, HKF.out, hk⟩, rfl, hx9⟩
        have HAC0 : Hid (∀ W, Ext wr W → Calls Tryz.prog (actF V) #[.pointer (some ⟨g1, 0, none⟩), .agg #[.int .i64 V, .int .i64 x, .int .i64 y]] W fun e w' => ∃ b : Bool, e = .returned (.tuple #[.bool b, errV kf]) ∧ (∀ k cs, Blk W k 62 cs → Blk w' k 62 cs) ∧ Ext w w') := fun W hW => by
          refine (HAC.out W hW).mono ?_
          rintro e w' ⟨b, rfl, _, _, r3, r4⟩
          exact ⟨b, by rw [errOf_ne (by omega)], r3, r4⟩
        clear HAC HKF hk
        rcases HV4 with rfl | rfl | rfl | ⟨hV1, hV2, hV3⟩
        · have HOF1 : Hid (∀ W, Calls Tryz.prog 49 #[.agg #[.int .i64 1, .int .i64 x, .int .i64 y]] W fun e w' => e = .returned (.func (.func 75) #[] #[]) ∧ Ext W w') := HOF.out
          have HAC1 : Hid (∀ W, Ext wr W → Calls Tryz.prog 75 #[.pointer (some ⟨g1, 0, none⟩), .agg #[.int .i64 1, .int .i64 x, .int .i64 y]] W fun e w' => ∃ b : Bool, e = .returned (.tuple #[.bool b, errV kf]) ∧ (∀ k cs, Blk W k 62 cs → Blk w' k 62 cs) ∧ Ext w w') := HAC0.out
          clear HOF HAC0 HR HR0
          go_upto_region 8 with fail
          have BG := Lib.hid (Blk.new wr 62 #[.int .i64 1, .int .i64 x, .int .i64 y])
          have hE3 : Ext wr (wr.alloc (.cells #[.int .i64 1, .int .i64 x, .int .i64 y] 62)) := Ext.alloc wr _
          obtain ⟨gE, hGe⟩ : ∃ G, wr.heap.size = G := ⟨_, rfl⟩
          rw [hGe] at BG ⊢
          clear hGe
          generalize wr.alloc (.cells #[.int .i64 1, .int .i64 x, .int .i64 y] 62) = w3 at BG hE3 ⊢
          have HKP : Hid (∀ W, Blk W gE 62 #[.int .i64 1, .int .i64 x, .int .i64 y] → Blk W gE 62 #[.int .i64 1, .int .i64 x, .int .i64 y] ∧ W.cell? ⟨gE, 0, none⟩ = some (.int .i64 1) ∧ W.cell? ⟨gE, 1, none⟩ = some (.int .i64 x) ∧ W.cell? ⟨gE, 2, none⟩ = some (.int .i64 y)) := fun W hB => ⟨hB, hB.cell 0, hB.cell 1, hB.cell 2⟩
          have hb3 := BG.out
          have u0 := (HKP.out _ hb3).2.1
          have u1 := (HKP.out _ hb3).2.2.1
          have u2 := (HKP.out _ hb3).2.2.2
          clear c0 c1 c2
          go_region_held3 (fun W => Blk W gE 62 #[.int .i64 1, .int .i64 x, .int .i64 y] ∧ W.cell? ⟨gE, 0, none⟩ = some (.int .i64 1) ∧ W.cell? ⟨gE, 1, none⟩ = some (.int .i64 x) ∧ W.cell? ⟨gE, 2, none⟩ = some (.int .i64 y))
            (exact HKP.out _ (by first | exact hb3 | assumption | exact fst_ (by assumption)))
            (first
              | (go_at_call 49; refine (HOF1.out _).mono ?_; rintro e w4 ⟨rfl, hx4⟩; have hE4 : Ext wr w4 := Ext.trans hE3 (Ext.trans (Ext.drew _) hx4); have hb4 : Blk w4 gE 62 #[.int .i64 1, .int .i64 x, .int .i64 y] := (Blk.drew hb3).chg (Chg.of_below hx4) (by have := (Blk.drew hb3).lt; omega); clear hx4)
              | (go_at_call 75; refine (HAC1.out _ hE4).mono ?_; rintro e w5 ⟨b, rfl, r3, r4⟩; have hb5 := r3 _ _ hb4; have HX5 := Lib.hid r4; clear r3 r4)
              | fail)
          rename_i hHeld
          have HN := Lib.hid (HPO.out _ HX5.out)
          clear hHeld HPO HKP hb3 hb4 hb5 u0 u1 u2 hE3 hE4
          go_wp2
          go_ret2
          exact HN.out
        · have HOF1 : Hid (∀ W, Calls Tryz.prog 49 #[.agg #[.int .i64 2, .int .i64 x, .int .i64 y]] W fun e w' => e = .returned (.func (.func 76) #[] #[]) ∧ Ext W w') := HOF.out
          have HAC1 : Hid (∀ W, Ext wr W → Calls Tryz.prog 76 #[.pointer (some ⟨g1, 0, none⟩), .agg #[.int .i64 2, .int .i64 x, .int .i64 y]] W fun e w' => ∃ b : Bool, e = .returned (.tuple #[.bool b, errV kf]) ∧ (∀ k cs, Blk W k 62 cs → Blk w' k 62 cs) ∧ Ext w w') := HAC0.out
          clear HOF HAC0 HR HR0
          go_upto_region 8 with fail
          have BG := Lib.hid (Blk.new wr 62 #[.int .i64 2, .int .i64 x, .int .i64 y])
          have hE3 : Ext wr (wr.alloc (.cells #[.int .i64 2, .int .i64 x, .int .i64 y] 62)) := Ext.alloc wr _
          obtain ⟨gE, hGe⟩ : ∃ G, wr.heap.size = G := ⟨_, rfl⟩
          rw [hGe] at BG ⊢
          clear hGe
          generalize wr.alloc (.cells #[.int .i64 2, .int .i64 x, .int .i64 y] 62) = w3 at BG hE3 ⊢
          have HKP : Hid (∀ W, Blk W gE 62 #[.int .i64 2, .int .i64 x, .int .i64 y] → Blk W gE 62 #[.int .i64 2, .int .i64 x, .int .i64 y] ∧ W.cell? ⟨gE, 0, none⟩ = some (.int .i64 2) ∧ W.cell? ⟨gE, 1, none⟩ = some (.int .i64 x) ∧ W.cell? ⟨gE, 2, none⟩ = some (.int .i64 y)) := fun W hB => ⟨hB, hB.cell 0, hB.cell 1, hB.cell 2⟩
          have hb3 := BG.out
          have u0 := (HKP.out _ hb3).2.1
          have u1 := (HKP.out _ hb3).2.2.1
          have u2 := (HKP.out _ hb3).2.2.2
          clear c0 c1 c2
          go_region_held3 (fun W => Blk W gE 62 #[.int .i64 2, .int .i64 x, .int .i64 y] ∧ W.cell? ⟨gE, 0, none⟩ = some (.int .i64 2) ∧ W.cell? ⟨gE, 1, none⟩ = some (.int .i64 x) ∧ W.cell? ⟨gE, 2, none⟩ = some (.int .i64 y))
            (exact HKP.out _ (by first | exact hb3 | assumption | exact fst_ (by assumption)))
            (first
              | (go_at_call 49; refine (HOF1.out _).mono ?_; rintro e w4 ⟨rfl, hx4⟩; have hE4 : Ext wr w4 := Ext.trans hE3 (Ext.trans (Ext.drew _) hx4); have hb4 : Blk w4 gE 62 #[.int .i64 2, .int .i64 x, .int .i64 y] := (Blk.drew hb3).chg (Chg.of_below hx4) (by have := (Blk.drew hb3).lt; omega); clear hx4)
              | (go_at_call 76; refine (HAC1.out _ hE4).mono ?_; rintro e w5 ⟨b, rfl, r3, r4⟩; have hb5 := r3 _ _ hb4; have HX5 := Lib.hid r4; clear r3 r4)
              | fail)
          rename_i hHeld
          have HN := Lib.hid (HPO.out _ HX5.out)
          clear hHeld HPO HKP hb3 hb4 hb5 u0 u1 u2 hE3 hE4
          go_wp2
          go_ret2
          exact HN.out
        · have HOF1 : Hid (∀ W, Calls Tryz.prog 49 #[.agg #[.int .i64 3, .int .i64 x, .int .i64 y]] W fun e w' => e = .returned (.func (.func 77) #[] #[]) ∧ Ext W w') := HOF.out
          have HAC1 : Hid (∀ W, Ext wr W → Calls Tryz.prog 77 #[.pointer (some ⟨g1, 0, none⟩), .agg #[.int .i64 3, .int .i64 x, .int .i64 y]] W fun e w' => ∃ b : Bool, e = .returned (.tuple #[.bool b, errV kf]) ∧ (∀ k cs, Blk W k 62 cs → Blk w' k 62 cs) ∧ Ext w w') := HAC0.out
          clear HOF HAC0 HR HR0
          go_upto_region 8 with fail
          have BG := Lib.hid (Blk.new wr 62 #[.int .i64 3, .int .i64 x, .int .i64 y])
          have hE3 : Ext wr (wr.alloc (.cells #[.int .i64 3, .int .i64 x, .int .i64 y] 62)) := Ext.alloc wr _
          obtain ⟨gE, hGe⟩ : ∃ G, wr.heap.size = G := ⟨_, rfl⟩
          rw [hGe] at BG ⊢
          clear hGe
          generalize wr.alloc (.cells #[.int .i64 3, .int .i64 x, .int .i64 y] 62) = w3 at BG hE3 ⊢
          have HKP : Hid (∀ W, Blk W gE 62 #[.int .i64 3, .int .i64 x, .int .i64 y] → Blk W gE 62 #[.int .i64 3, .int .i64 x, .int .i64 y] ∧ W.cell? ⟨gE, 0, none⟩ = some (.int .i64 3) ∧ W.cell? ⟨gE, 1, none⟩ = some (.int .i64 x) ∧ W.cell? ⟨gE, 2, none⟩ = some (.int .i64 y)) := fun W hB => ⟨hB, hB.cell 0, hB.cell 1, hB.cell 2⟩
          have hb3 := BG.out
          have u0 := (HKP.out _ hb3).2.1
          have u1 := (HKP.out _ hb3).2.2.1
          have u2 := (HKP.out _ hb3).2.2.2
          clear c0 c1 c2
          go_region_held3 (fun W => Blk W gE 62 #[.int .i64 3, .int .i64 x, .int .i64 y] ∧ W.cell? ⟨gE, 0, none⟩ = some (.int .i64 3) ∧ W.cell? ⟨gE, 1, none⟩ = some (.int .i64 x) ∧ W.cell? ⟨gE, 2, none⟩ = some (.int .i64 y))
            (exact HKP.out _ (by first | exact hb3 | assumption | exact fst_ (by assumption)))
            (first
              | (go_at_call 49; refine (HOF1.out _).mono ?_; rintro e w4 ⟨rfl, hx4⟩; have hE4 : Ext wr w4 := Ext.trans hE3 (Ext.trans (Ext.drew _) hx4); have hb4 : Blk w4 gE 62 #[.int .i64 3, .int .i64 x, .int .i64 y] := (Blk.drew hb3).chg (Chg.of_below hx4) (by have := (Blk.drew hb3).lt; omega); clear hx4)
              | (go_at_call 77; refine (HAC1.out _ hE4).mono ?_; rintro e w5 ⟨b, rfl, r3, r4⟩; have hb5 := r3 _ _ hb4; have HX5 := Lib.hid r4; clear r3 r4)
              | fail)
          rename_i hHeld
          have HN := Lib.hid (HPO.out _ HX5.out)
          clear hHeld HPO HKP hb3 hb4 hb5 u0 u1 u2 hE3 hE4
          go_wp2
          go_ret2
          exact HN.out
        · have HOF1 : Hid (∀ W, Calls Tryz.prog 49 #[.agg #[.int .i64 V, .int .i64 x, .int .i64 y]] W fun e w' => e = .returned (.func (.func 79) #[] #[]) ∧ Ext W w') := fun W => by have q := HOF.out W; rwa [show actF V = 79 by unfold actF; rw [if_neg hV1, if_neg hV2, if_neg hV3]] at q
          have HAC1 : Hid (∀ W, Ext wr W → Calls Tryz.prog 79 #[.pointer (some ⟨g1, 0, none⟩), .agg #[.int .i64 V, .int .i64 x, .int .i64 y]] W fun e w' => ∃ b : Bool, e = .returned (.tuple #[.bool b, errV kf]) ∧ (∀ k cs, Blk W k 62 cs → Blk w' k 62 cs) ∧ Ext w w') := fun W hW => by have q := HAC0.out W hW; rwa [show actF V = 79 by unfold actF; rw [if_neg hV1, if_neg hV2, if_neg hV3]] at q
          clear HOF HAC0 HR HR0
          go_upto_region 8 with fail
          have BG := Lib.hid (Blk.new wr 62 #[.int .i64 V, .int .i64 x, .int .i64 y])
          have hE3 : Ext wr (wr.alloc (.cells #[.int .i64 V, .int .i64 x, .int .i64 y] 62)) := Ext.alloc wr _
          obtain ⟨gE, hGe⟩ : ∃ G, wr.heap.size = G := ⟨_, rfl⟩
          rw [hGe] at BG ⊢
          clear hGe
          generalize wr.alloc (.cells #[.int .i64 V, .int .i64 x, .int .i64 y] 62) = w3 at BG hE3 ⊢
          have HKP : Hid (∀ W, Blk W gE 62 #[.int .i64 V, .int .i64 x, .int .i64 y] → Blk W gE 62 #[.int .i64 V, .int .i64 x, .int .i64 y] ∧ W.cell? ⟨gE, 0, none⟩ = some (.int .i64 V) ∧ W.cell? ⟨gE, 1, none⟩ = some (.int .i64 x) ∧ W.cell? ⟨gE, 2, none⟩ = some (.int .i64 y)) := fun W hB => ⟨hB, hB.cell 0, hB.cell 1, hB.cell 2⟩
          have hb3 := BG.out
          have u0 := (HKP.out _ hb3).2.1
          have u1 := (HKP.out _ hb3).2.2.1
          have u2 := (HKP.out _ hb3).2.2.2
          clear c0 c1 c2
          go_region_held3 (fun W => Blk W gE 62 #[.int .i64 V, .int .i64 x, .int .i64 y] ∧ W.cell? ⟨gE, 0, none⟩ = some (.int .i64 V) ∧ W.cell? ⟨gE, 1, none⟩ = some (.int .i64 x) ∧ W.cell? ⟨gE, 2, none⟩ = some (.int .i64 y))
            (exact HKP.out _ (by first | exact hb3 | assumption | exact fst_ (by assumption)))
            (first
              | (go_at_call 49; refine (HOF1.out _).mono ?_; rintro e w4 ⟨rfl, hx4⟩; have hE4 : Ext wr w4 := Ext.trans hE3 (Ext.trans (Ext.drew _) hx4); have hb4 : Blk w4 gE 62 #[.int .i64 V, .int .i64 x, .int .i64 y] := (Blk.drew hb3).chg (Chg.of_below hx4) (by have := (Blk.drew hb3).lt; omega); clear hx4)
              | (go_at_call 79; refine (HAC1.out _ hE4).mono ?_; rintro e w5 ⟨b, rfl, r3, r4⟩; have hb5 := r3 _ _ hb4; have HX5 := Lib.hid r4; clear r3 r4)
              | fail)
          rename_i hHeld
          have HN := Lib.hid (HPO.out _ HX5.out)
          clear hHeld HPO HKP hb3 hb4 hb5 u0 u1 u2 hE3 hE4
          go_wp2
          go_ret2
          exact HN.out
    · obtain rfl : i = m := by omega
      have hx := HR.out.2.2.ext
      have hb1 : Blk wr kb 108 (dkC gs G.gb n) := HB.out.chg (Chg.of_below hx) (by have := HB.out.lt; omega)
      have e1 : wr.cell? ⟨kb, 1, none⟩ = some (.pointer (some ⟨G.gb, 0, none⟩)) := hb1.cell 1
      have e2 : wr.frozen? ⟨kb, 1, none⟩ = false := hb1.frozen 1
      have HP : Hid (DoPost w kb gs n A l (.returned (.tuple #[.slice Ao q co, .nilIface])) (wr.setCell ⟨kb, 1, none⟩ (.pointer (some ⟨g1, 0, none⟩)))) := by
        obtain ⟨r1, r2, r3⟩ := HR.out
        obtain ⟨G', f', hG', gg⟩ := r3.g
        have hnT : ¬ G'.T kb := gg.at_.m.notyp (by decide) hb1
        have hnR : (Value.slice Ao q co).ownBlock ≠ some kb := own_ne r3.row hb1 (by decide)
        have hc : Chg (fun k => k = kb) wr (wr.setCell ⟨kb, 1, none⟩ (.pointer (some ⟨g1, 0, none⟩))) := (Chg.refl (fun k => k = kb) wr).setCell (fun _ => rfl) _
        refine .inr ⟨by have := HL.out; omega, by rw [HL.out]; exact r2, ?_⟩
        rw [HL.out, r1]
        refine ⟨Ao, co, _, G', f', rfl, own_chg (by rw [← r1]; have := r3.row; rw [r1] at this ⊢; exact this) hc (fun k hk e => hnR (by rw [hk, e])), r3.new, ⟨gg.at_.m.chg hc (fun k hk e => hnT (e ▸ .inl hk)) (fun i F hi e => hnT (e ▸ .inr ⟨i, F, hi, rfl⟩)) (fun k e cs hb2 => by subst e; exact absurd (blk_ty hb1 hb2) (by decide)), gg.at_.k, gg.at_.few, gg.at_.nN⟩, gg.new, ?_, ?_⟩
        · have := hb1.set_ 1 (.pointer (some ⟨g1, 0, none⟩))
          rw [← hG'] at this ⊢
          exact this
        · exact (Chg.new hx (fun k => k = kb)).setCell (fun _ => rfl) _
      clear HR hb1 hx
      go_wp2
      go_ret2
      exact HP.out
end Go.Proofs.YtckcbfnffmohgaaGreat
