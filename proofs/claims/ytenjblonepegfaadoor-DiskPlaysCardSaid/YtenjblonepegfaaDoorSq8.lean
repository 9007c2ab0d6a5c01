/-
  A script's rows as they lie: of each a tree that holds what its list holds. Depth that only draws. Conditions: as each says.
-/
import Derived.Test.YtenjblonepegfaaDoorSq7
import Derived.Test.YtenjblonepegfaaDoorMem3
namespace Go.Proofs.YtenjblonepegfaaDoor
open Go Go.RowKit SQ
set_option linter.unusedVariables false

def dg (n : Nat) : Nat := if h : n = 0 then 0 else dg (n / 2) + 1
termination_by n
decreasing_by omega
theorem dg_zero : dg 0 = 0 := by rw [dg]; simp
theorem dg_pos {n : Nat} (h : n ≠ 0) : dg n = dg (n / 2) + 1 := by rw [dg, dif_neg h]
theorem dg_lt : ∀ (k n : Nat), n ≤ k → n < 2 ^ dg n
  | 0, n, h => by obtain rfl : n = 0 := by omega
                  rw [dg_zero]; decide
  | k + 1, n, h => by
    by_cases h0 : n = 0
    · subst h0; rw [dg_zero]; decide
    · have := dg_lt k (n / 2) (by omega)
      rw [dg_pos h0, Nat.pow_succ]; omega
theorem dg_le : ∀ (k n : Nat), n ≤ k → dg n ≤ n
  | 0, n, h => by obtain rfl : n = 0 := by omega
                  rw [dg_zero]; decide
  | k + 1, n, h => by
    by_cases h0 : n = 0
    · subst h0; rw [dg_zero]; decide
    · have := dg_le k (n / 2) (by omega)
      rw [dg_pos h0]; omega
theorem depth_dg {t : T} (h : Bal t) : t.depth ≤ 3 * dg t.size := by
  rcases Nat.lt_or_ge (3 * dg t.size) t.depth with hlt | hge
  · have h1 := bal_depth _ t h hlt
    have h2 := dg_lt _ t.size (Nat.le_refl _)
    omega
  · exact hge
/-- Digits of a number in base 2. -/
theorem digits_any (w : World) (n : Nat) (hn : n ≤ 100000) : Calls Tryd.prog 31 #[.int .i64 n] w fun e w' => e = .returned (.int .i64 (dg n : Nat)) ∧ w = w' := by
  have hg := dg_le _ n (Nat.le_refl _)
  go_enter Tryd.func31, Tryd.ntmps31
  go_wp2
  go_loopw [0, 3] (fun v u wr => ∃ m d : Nat, v = .int .i64 m ∧ u = .int .i64 d ∧ m ≤ 100000 ∧ d ≤ 100000 ∧ w = wr ∧ Hid (d + dg m = dg n)) (fun v _ _ => (intOf v).toNat)
  case atStart => exact ⟨n, 0, rfl, rfl, hn, by omega, rfl, by simp [Hid]⟩
  case round =>
    obtain ⟨m, d, rfl, rfl, hm, hd, rfl, HR⟩ := hrel
    by_cases h0 : m = 0
    · subst h0
      have HE : Hid ((d : Int) = (dg n : Nat)) := by have := HR.out; rw [dg_zero] at this; unfold Hid; omega
      go_wp2
      go_ret
      exact ⟨by rw [HE.out]; rfl, rfl⟩
    · have hpos : (0 : Int) < (m : Int) := by omega
      have HM : Hid (d + 1 + dg (m / 2) = dg n) := by have := HR.out; rw [dg_pos h0] at this; unfold Hid; omega
      have hd1 : d + 1 ≤ 100000 := by have := HM.out; omega
      go_wp2
      go_roundw
      case rel => exact ⟨m / 2, d + 1, by go_num, by go_num, by omega, hd1, by trivial, HM.out⟩
      case measure => simp [intOf]; omega

set_option maxRecDepth 100000 in
set_option maxHeartbeats 1000000 in
theorem depth_quiet : ∀ (t : T) (w : World) (p : Option Addr), SeqAt w p t → t.size ≤ 1000 →
    Calls Tryd.prog 30 #[.pointer p] w fun e w' => e = .returned (.int .i64 (t.depth : Nat)) ∧ ∃ m, w' = w.drewN m
  | .nil, w, p, hs, _ => by
    obtain rfl : p = none := hs
    go_enter Tryd.func30, Tryd.ntmps30
    go_wp2
    go_ret
    exact ⟨rfl, 0, rfl⟩
  | .node l x r, w, p, hs, hz => by
    obtain ⟨b, lp, rp, rfl, hb, c0, c1, c2, _, r1, r2⟩ := seqCells w hs
    have h1 : (T.node l x r).size = l.size + 1 + r.size := rfl
    have z1 := T.depth_le l
    have z2 := T.depth_le r
    have z3 : l.depth ≤ 1000 := by omega
    have z4 : r.depth ≤ 1000 := by omega
    have HL : Hid (∀ k, Calls Tryd.prog 30 #[.pointer lp] (w.drewN k) fun e w' => e = .returned (.int .i64 (l.depth : Nat)) ∧ ∃ m, w' = (w.drewN k).drewN m) := by
      have R1 := Lib.hid r1
      exact fun k => depth_quiet l _ lp (R1.out.ext (Ext.drewN _ _)) (by omega)
    have HR : Hid (∀ k, Calls Tryd.prog 30 #[.pointer rp] (w.drewN k) fun e w' => e = .returned (.int .i64 (r.depth : Nat)) ∧ ∃ m, w' = (w.drewN k).drewN m) := by
      have R2 := Lib.hid r2
      exact fun k => depth_quiet r _ rp (R2.out.ext (Ext.drewN _ _)) (by omega)
    clear hs r1 r2 hz h1 z1 z2
    go_enter Tryd.func30, Tryd.ntmps30
    go_wp2_with fail
    go_quiet (first
        | (go_at_call_of 30 (Value.pointer lp); exact Calls.quiet_of (HL.out _))
        | (go_at_call_of 30 (Value.pointer rp); exact Calls.quiet_of (HR.out _)))
    go_wp2
    all_goals
      go_ret
      refine ⟨ret_i ?_, _, rfl⟩
      simp only [T.depth]; omega

theorem SeqAt.chg {S : Nat → Prop} {w w' : World} (hc : Chg S w w') (hS : ∀ k, S k → ∀ cs, ¬ Blk w k 134 cs) : ∀ {t : T} {p : Option Addr}, SeqAt w p t → SeqAt w' p t
  | .nil, _, h => h
  | .node _ _ _, _, ⟨b, lp, rp, h1, h2, h3, h4⟩ => ⟨b, lp, rp, h1, h2.chg hc (fun hs => hS b hs _ h2), h3.chg hc hS, h4.chg hc hS⟩
/-- A list of numbers that nobody writes to: it came in, or it is a block of numbers. -/
def IMem (B : Nat) (w : World) (A : Option Addr) (xs : List Int) : Prop := IntsAt w A xs ∧ (xs ≠ [] → ∀ x, A = some x → x.block < B ∨ ∃ cs, Blk w x.block 3 cs)
theorem IMem.chg {S : Nat → Prop} {B : Nat} {w w' : World} {A : Option Addr} {xs : List Int} (h : IMem B w A xs) (hc : Chg S w w') (hS : ∀ k, S k → B ≤ k ∧ ∀ cs, ¬ Blk w k 3 cs) : IMem B w' A xs := by
  by_cases h0 : xs = []
  · exact ⟨.inl h0, fun h => absurd h0 h⟩
  obtain ⟨h1, h2⟩ := h
  rcases h1 with h1 | ⟨b, off, rfl, hb, he⟩
  · exact absurd h1 h0
  have h2' := h2 h0 _ rfl
  have hs : ¬ S b := fun hs => by
    obtain ⟨h3, h4⟩ := hS b hs
    rcases h2' with h | ⟨cs, h⟩
    · simp only at h; omega
    · exact h4 _ h
  refine ⟨.inr ⟨b, off, rfl, Nat.lt_of_lt_of_le hb hc.size, fun i v hv => (hc.cell (p := ⟨b, _, none⟩) hb hs).trans (he i v hv)⟩, fun _ x hx => ?_⟩
  injection hx with hx; subst hx
  exact h2'.imp id fun ⟨cs, h⟩ => ⟨cs, h.chg hc hs⟩
theorem blk_of_own {w : World} {base : Nat} {e : TypeId} {size n m c : Nat} {x : Addr} {xs : List Value} (h : w.ownsRow base e size (.slice (some x) n c) m xs) : ∃ cs, Blk w x.block e cs := by
  rcases h.2 with ⟨h0, _⟩ | ⟨g, cap, cur, h0, _, hg, _⟩
  · simp at h0
  · simp at h0; obtain ⟨rfl, _⟩ := h0; exact ⟨cur, hg⟩
theorem IMem.of_own {B : Nat} {w : World} {c n : Nat} {A : Option Addr} {xs : List Int} (h : w.ownsRow 0 3 1 (.slice A n c) n (xs.map (Value.int .i64))) : IMem B w A xs :=
  ⟨(IntsAt.of_own h).1, fun _ x hx => by subst hx; exact .inr (blk_of_own h)⟩
structure QR where
  p : Option Addr
  t : T
  A : Option Addr
  n : Nat
  c : Nat
instance : Inhabited QR := ⟨⟨none, .nil, none, 0, 0⟩⟩
structure QOk (B : Nat) (w : World) (q : QR) : Prop where
  seq : SeqAt w q.p q.t
  bal : Bal q.t
  sz : q.t.size ≤ 400
  ints : IMem B w q.A q.t.list
  len : q.t.list.length = q.n
  nc : q.n ≤ q.c
  cm : q.c ≤ maxLen
  no : q.A = none → q.n = 0 ∧ q.c = 0
theorem QOk.chg {S : Nat → Prop} {B : Nat} {w w' : World} {q : QR} (h : QOk B w q) (hc : Chg S w w') (hS : ∀ k, S k → B ≤ k ∧ ∀ cs, ¬ Blk w k 3 cs ∧ ¬ Blk w k 134 cs) : QOk B w' q :=
  ⟨h.seq.chg hc (fun k hk cs => ((hS k hk).2 cs).2), h.bal, h.sz, h.ints.chg hc (fun k hk => ⟨(hS k hk).1, fun cs => ((hS k hk).2 cs).1⟩), h.len, h.nc, h.cm, h.no⟩
theorem QOk.ext {B : Nat} {w w' : World} {q : QR} (h : QOk B w q) (hb : Below w.heap.size w w') : QOk B w' q :=
  ⟨h.seq.ext hb, h.bal, h.sz, ⟨h.ints.1.ext hb, fun h0 x hx => (h.ints.2 h0 x hx).imp id fun ⟨cs, hB⟩ => ⟨cs, hB.chg (Chg.new hb (fun _ => False)) (fun h => h)⟩⟩, h.len, h.nc, h.cm, h.no⟩
def ptrs (L : List QR) : List Value := L.map fun q => .pointer q.p
def lists (L : List QR) : List Value := L.map fun q => .slice q.A q.n q.c
structure PSt (W w : World) (rv wv : Value) (L : List QR) : Prop where
  bel : Below W.heap.size W w
  rows : w.ownsRow 0 57 1 rv L.length (ptrs L)
  want : w.ownsRow 0 34 1 wv L.length (lists L)
  ok : ∀ q ∈ L, QOk W.heap.size w q
  rb : ∀ k, rv.ownBlock = some k → W.heap.size ≤ k
  wb : ∀ k, wv.ownBlock = some k → W.heap.size ≤ k
theorem PSt.ext {W w w' : World} {rv wv : Value} {L : List QR} (h : PSt W w rv wv L) (hb : Below w.heap.size w w') : PSt W w' rv wv L :=
  ⟨h.bel.trans (hb.mono h.bel.size), own_chg h.rows (Chg.of_below hb) (fun k hk => by have := own_lt h.rows hk; omega), own_chg h.want (Chg.of_below hb) (fun k hk => by have := own_lt h.want hk; omega), fun q hq => (h.ok q hq).ext hb, h.rb, h.wb⟩
theorem PSt.push {W w w1 w2 : World} {rv wv : Value} {L X : List QR} (h : PSt W w rv wv L) (hX : ∀ q ∈ X, QOk W.heap.size w q) {m : Nat} (hm : X.length = m) {o1 : Obj} {A1 A2 : Option Addr} {c1 c2 : Nat}
    (h1 : w1.ownsRow 0 57 1 (.slice A1 (L.length + m) c1) (L.length + m) (ptrs L ++ ptrs X)) (k1 : Chg (fun k => rv.ownBlock = some k) (w.alloc o1) w1) (t1 : ∀ g, (Value.slice A1 (L.length + m) c1).ownBlock = some g → rv.ownBlock = some g ∨ g = (w.alloc o1).heap.size)
    (w1' : World) (hw1 : Below w1.heap.size w1 w1')
    (h2 : w2.ownsRow 0 34 1 (.slice A2 (L.length + m) c2) (L.length + m) (lists L ++ lists X)) (k2 : Chg (fun k => wv.ownBlock = some k) w1' w2) (t2 : ∀ g, (Value.slice A2 (L.length + m) c2).ownBlock = some g → wv.ownBlock = some g ∨ g = w1'.heap.size) :
    PSt W w2 (.slice A1 (L.length + m) c1) (.slice A2 (L.length + m) c2) (L ++ X) := by
  have hlen : (L ++ X).length = L.length + m := by rw [List.length_append, hm]
  have b0 : Below w.heap.size w (w.alloc o1) := (Below.refl _ _).alloc (Nat.le_refl _) _
  have g0 := h.ext b0
  have hS1 : ∀ k, rv.ownBlock = some k → W.heap.size ≤ k ∧ ∀ cs, ¬ Blk (w.alloc o1) k 3 cs ∧ ¬ Blk (w.alloc o1) k 134 cs := fun k hk => ⟨h.rb k hk, fun cs => ⟨fun hB => own_ne g0.rows hB (by decide) hk, fun hB => own_ne g0.rows hB (by decide) hk⟩⟩
  have q1 : ∀ q ∈ L ++ X, QOk W.heap.size w1 q := fun q hq => by
    rcases List.mem_append.1 hq with hq | hq
    · exact (g0.ok q hq).chg k1 hS1
    · exact ((hX q hq).ext b0).chg k1 hS1
  have want1 : w1.ownsRow 0 34 1 wv L.length (lists L) := own_chg g0.want k1 (fun k hk hr => own_neq g0.want g0.rows (by decide) hk hr)
  have want1' : w1'.ownsRow 0 34 1 wv L.length (lists L) := own_chg want1 (Chg.of_below hw1) (fun k hk => by have := own_lt want1 hk; omega)
  have rows1' : w1'.ownsRow 0 57 1 (.slice A1 (L.length + m) c1) (L.length + m) (ptrs L ++ ptrs X) := own_chg h1 (Chg.of_below hw1) (fun k hk => by have := own_lt h1 hk; omega)
  have hS2 : ∀ k, wv.ownBlock = some k → W.heap.size ≤ k ∧ ∀ cs, ¬ Blk w1' k 3 cs ∧ ¬ Blk w1' k 134 cs := fun k hk => ⟨h.wb k hk, fun cs => ⟨fun hB => own_ne want1' hB (by decide) hk, fun hB => own_ne want1' hB (by decide) hk⟩⟩
  have hb1 : Below W.heap.size W w1 := (g0.bel).trans ((k1.below (B := W.heap.size) g0.bel.size (fun k _ hk => h.rb k hk)))
  have hb1' := hb1.trans (hw1.mono hb1.size)
  have hb2 : Below W.heap.size W w2 := hb1'.trans (k2.below hb1'.size (fun k _ hk => h.wb k hk))
  refine ⟨hb2, ?_, ?_, fun q hq => ((q1 q hq).ext hw1).chg k2 hS2, fun g hg => ?_, fun g hg => ?_⟩
  · rw [hlen]; unfold ptrs; rw [List.map_append]; exact own_chg rows1' k2 (fun k hk hw => own_neq rows1' want1' (by decide) hk hw)
  · rw [hlen]; unfold lists; rw [List.map_append]; exact h2
  · rcases t1 g hg with h0 | h0
    · exact h.rb g h0
    · rw [h0]; exact g0.bel.size
  · rcases t2 g hg with h0 | h0
    · exact h.wb g h0
    · rw [h0]; exact hb1'.size
end Go.Proofs.YtenjblonepegfaaDoor
