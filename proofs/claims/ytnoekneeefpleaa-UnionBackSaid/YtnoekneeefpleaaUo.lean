/-
  Nodes put together in another order, and the other way round, are the same parts: the plain law, then the walk of UnionOrder. Condition: the steps are read as 'StepsAt' says.
-/
import Derived.Test.YtnoekneeefpleaaUn3
import Derived.Test.YtnoekneeefpleaaArg
import Derived.StillTailTactics
namespace Go.Proofs.Ytnoekneeefpleaa
open Go Go.RowKit

theorem joinI_ok {n : Nat} {hs : UF.Hs} (h : UF.Ok n hs) (a b : Int) : UF.Ok n (joinI n hs a b) := by
  unfold joinI
  split
  · rename_i hr
    simp [nodeB] at hr
    exact UF.join_ok h (by omega) (by omega)
  · exact h
/-- The nodes of steps, put together. -/
def joinsTo (n : Nat) (f : Nat → Int × Int) : Nat → UF.Hs
  | 0 => []
  | k + 1 => joinI n (joinsTo n f k) (f k).1 (f k).2
def edgesTo (n : Nat) (f : Nat → Int × Int) : Nat → List (Nat × Nat)
  | 0 => []
  | k + 1 => if nodeB n [(f k).1, (f k).2] then edgesTo n f k ++ [((f k).1.toNat, (f k).2.toNat)] else edgesTo n f k
theorem joinsTo_ok (n : Nat) (f : Nat → Int × Int) : ∀ k, UF.Ok n (joinsTo n f k)
  | 0 => trivial
  | k + 1 => joinI_ok (joinsTo_ok n f k) _ _
theorem joinsTo_tells (n : Nat) (f : Nat → Int × Int) : ∀ k, UF.Tells (joinsTo n f k) (edgesTo n f k)
  | 0 => UF.tells_nil
  | k + 1 => by
    have ih := joinsTo_tells n f k
    simp only [joinsTo, edgesTo, joinI]
    split
    · exact UF.tells_join ih _ _
    · exact ih
theorem mem_edgesTo {n : Nat} {f : Nat → Int × Int} {x y : Nat} : ∀ {k : Nat}, (x, y) ∈ edgesTo n f k ↔ ∃ i, i < k ∧ nodeB n [(f i).1, (f i).2] = true ∧ x = (f i).1.toNat ∧ y = (f i).2.toNat
  | 0 => by simp [edgesTo]
  | k + 1 => by
    have ih := @mem_edgesTo n f x y k
    simp only [edgesTo]
    constructor
    · intro h
      split at h
      · rw [List.mem_append] at h
        rcases h with h | h
        · obtain ⟨i, h1, h2⟩ := ih.1 h; exact ⟨i, by omega, h2⟩
        · simp at h; exact ⟨k, by omega, by assumption, h⟩
      · obtain ⟨i, h1, h2⟩ := ih.1 h; exact ⟨i, by omega, h2⟩
    · rintro ⟨i, h1, h2, h3, h4⟩
      by_cases e : i = k
      · subst e; simp [h2, h3, h4]
      · have := ih.2 ⟨i, by omega, h2, h3, h4⟩
        split
        · exact List.mem_append_left _ this
        · exact this
theorem nodeB_swap (n : Nat) (a b : Int) : nodeB n [a, b] = nodeB n [b, a] := by simp [nodeB, Bool.and_comm]
/-- Steps read from behind, each the other way round, join the same. -/
theorem order_same {n m : Nat} {f g : Nat → Int × Int} (h : ∀ j, j < m → g j = ((f (m - 1 - j)).2, (f (m - 1 - j)).1)) (x y : Nat) :
    UF.rt (joinsTo n f m) x = UF.rt (joinsTo n f m) y ↔ UF.rt (joinsTo n g m) x = UF.rt (joinsTo n g m) y := by
  rw [joinsTo_tells n f m, joinsTo_tells n g m]
  constructor
  · intro c
    refine c.mono fun a b hm => ?_
    obtain ⟨i, h1, h2, rfl, rfl⟩ := mem_edgesTo.1 hm
    refine UF.Con.symm (.edge (mem_edgesTo.2 ⟨m - 1 - i, by omega, ?_⟩))
    rw [h _ (by omega), show m - 1 - (m - 1 - i) = i by omega]
    exact ⟨by rw [nodeB_swap]; exact h2, rfl, rfl⟩
  · intro c
    refine c.mono fun a b hm => ?_
    obtain ⟨i, h1, h2, rfl, rfl⟩ := mem_edgesTo.1 hm
    rw [h _ h1] at h2 ⊢
    exact UF.Con.symm (.edge (mem_edgesTo.2 ⟨m - 1 - i, by omega, by rw [nodeB_swap]; exact h2, rfl, rfl⟩))

/-- Two unions beside each other, all of it new. -/
structure Two (w : World) (n g1 g2 : Nat) (hs ks : UF.Hs) (u v : Uni) (wr : World) : Prop where
  pg : u.g = g1
  qg : v.g = g2
  atu : UAt wr u n hs
  atv : UAt wr v n ks
  apart : ∀ k, u.fp k → ¬ v.fp k
  un : ∀ k, u.fp k → w.heap.size ≤ k
  vn : ∀ k, v.fp k → w.heap.size ≤ k
  below : Below w.heap.size w wr
def TwoAt (w : World) (n g1 g2 : Nat) (hs ks : UF.Hs) (wr : World) : Prop := ∃ u v, Two w n g1 g2 hs ks u v wr
section
variable {w wr w' : World} {n g1 g2 : Nat} {hs ks hs' : UF.Hs} {u v u' : Uni}
theorem Two.left (h : Two w n g1 g2 hs ks u v wr) (hu : UAt w' u' n hs') (hm : Moved wr u u' w') : Two w n g1 g2 hs' ks u' v w' := by
  refine ⟨hm.1.trans h.pg, h.qg, hu, h.atv.chg hm.2.1 (fun k hv hu => h.apart k hu hv), fun k hk hv => ?_, fun k hk => ?_, h.vn, ?_⟩
  · rcases hm.2.2 k hk with hk | hk
    · exact h.apart k hk hv
    · have := h.atv.lt hv; omega
  · rcases hm.2.2 k hk with hk | hk
    · exact h.un k hk
    · have := h.below.size; omega
  · exact ((Chg.of_below h.below).trans hm.2.1 (fun k _ hk => h.un k hk)).below (Nat.le_refl _) (fun _ _ h => h)
theorem Two.right (h : Two w n g1 g2 hs ks u v wr) (hu : UAt w' u' n hs') (hm : Moved wr v u' w') : Two w n g1 g2 hs hs' u u' w' := by
  refine ⟨h.pg, hm.1.trans h.qg, h.atu.chg hm.2.1 (fun k hv hu => h.apart k hv hu), hu, fun k hv hk => ?_, h.un, fun k hk => ?_, ?_⟩
  · rcases hm.2.2 k hk with hk | hk
    · exact h.apart k hv hk
    · have := h.atu.lt hv; omega
  · rcases hm.2.2 k hk with hk | hk
    · exact h.vn k hk
    · have := h.below.size; omega
  · exact ((Chg.of_below h.below).trans hm.2.1 (fun k _ hk => h.vn k hk)).below (Nat.le_refl _) (fun _ _ h => h)
theorem Two.new (h : Two w n g1 g2 hs ks u v wr) (hb : Below wr.heap.size wr w') : Two w n g1 g2 hs ks u v w' :=
  ⟨h.pg, h.qg, h.atu.new hb, h.atv.new hb, h.apart, h.un, h.vn, h.below.trans (hb.mono h.below.size)⟩
end

theorem Moved.below {B : Nat} {w w1 w2 : World} {u u' : Uni} (hb : Below B w w1) (hm : Moved w1 u u' w2) (hu : ∀ k, u.fp k → B ≤ k) (hB : B ≤ w.heap.size) : Below B w w2 :=
  ((Chg.of_below hb).trans hm.2.1 (fun k _ hk => hu k hk)).below hB (fun _ _ h => h)
theorem Two.start {w w2 w3 w4 : World} {n : Nat} {u v : Uni} (h2 : Below w.heap.size w w2) (hu : UAt w3 u n []) (b3 : Below w2.heap.size w2 w3) (un : ∀ k, u.fp k → w2.heap.size ≤ k)
    (hv : UAt w4 v n []) (b4 : Below w3.heap.size w3 w4) (vn : ∀ k, v.fp k → w3.heap.size ≤ k) : Two w n u.g v.g [] [] u v w4 := by
  have z2 := h2.size
  have z3 := b3.size
  refine ⟨rfl, rfl, hu.new b4, hv, fun k hk hk' => ?_, fun k hk => ?_, fun k hk => ?_, (h2.trans (b3.mono z2)).trans (b4.mono (by omega))⟩
  · have := hu.lt hk; have := vn k hk'; omega
  · have := un k hk; omega
  · have := vn k hk; omega
/-- The first loop's relation, and the second's. -/
def Uo1 (w : World) (n g1 g2 : Nat) (f : Nat → Int × Int) (k : Nat) (wr : World) : Prop := TwoAt w n g1 g2 (joinsTo n f k) [] wr
def Uo2 (w : World) (n g1 g2 : Nat) (f g : Nat → Int × Int) (m t : Nat) (wr : World) : Prop := TwoAt w n g1 g2 (joinsTo n f m) (joinsTo n g (m - min t m)) wr
theorem min_step {m t : Nat} (h : t + 1 ≤ m) : m - min t m = (m - min (t + 1) m) + 1 := by omega

theorem stepInt (w : World) (s : Nat → Int × Int × Int) {b off len i : Nat} (h : ∀ i, i < len → w.cell? ⟨b, off + i * 4, none⟩ = some (.int .i64 (s i).1) ∧ w.cell? ⟨b, off + i * 4 + 1, none⟩ = some (.int .i64 (s i).2.1) ∧ w.cell? ⟨b, off + i * 4 + 2, none⟩ = some (.int .i64 (s i).2.2)) (hi : i < len) :
    ∃ x y : Int, (s i).2 = (x, y) ∧ w.cell? ⟨b, off + i * 4 + 1, none⟩ = some (.int .i64 x) ∧ w.cell? ⟨b, off + i * 4 + 2, none⟩ = some (.int .i64 y) := ⟨_, _, rfl, (h i hi).2.1, (h i hi).2.2⟩

theorem join_at {w : World} {u : Uni} {n g : Nat} {hs : UF.Hs} (h : UAt w u n hs) (hg : u.g = g) (a b : Int) :
    Calls Try.prog 13 #[.pointer (some ⟨g, 0, none⟩), .int .i64 a, .int .i64 b] w (JoinAny w u n hs a b) := by subst hg; exact join_any w u n hs h a b
theorem size_at {w : World} {u : Uni} {n g : Nat} {hs : UF.Hs} (h : UAt w u n hs) (hg : u.g = g) (a : Nat) (ha : a < n) :
    Calls Try.prog 14 #[.pointer (some ⟨g, 0, none⟩), .int .i64 a] w fun e w' => e = .returned (.tuple #[.int .i64 (UF.sz hs (UF.rt hs a) : Nat), .nilIface]) ∧ Below w.heap.size w w' := by subst hg; exact size_yes w u n hs h a ha
theorem same_at {w : World} {u : Uni} {n g : Nat} {hs : UF.Hs} (h : UAt w u n hs) (hg : u.g = g) (a b : Nat) (ha : a < n) (hb : b < n) :
    Calls Try.prog 15 #[.pointer (some ⟨g, 0, none⟩), .int .i64 a, .int .i64 b] w fun e w' => e = .returned (.tuple #[.bool (UF.rt hs a == UF.rt hs b), .nilIface]) ∧ Below w.heap.size w w' := by subst hg; exact same_yes w u n hs h a b ha hb
theorem parts_at {w : World} {u : Uni} {n g : Nat} {hs : UF.Hs} (h : UAt w u n hs) (hg : u.g = g) :
    Calls Try.prog 16 #[.pointer (some ⟨g, 0, none⟩)] w fun e w' => e = .returned (.int .i64 ((n : Int) - (hs.length : Int))) ∧ w = w' := by subst hg; exact parts_any w u n hs h
theorem mark_at {w : World} {u : Uni} {n g : Nat} {hs : UF.Hs} (h : UAt w u n hs) (hg : u.g = g) :
    Calls Try.prog 17 #[.pointer (some ⟨g, 0, none⟩)] w fun e w' => e = .returned (.int .i64 (hs.length : Nat)) ∧ w = w' := by subst hg; exact mark_any w u n hs h
set_option maxRecDepth 100000 in
set_option maxHeartbeats 2000000 in
theorem uo_walk (n : Int) (a : Option Addr) (len cap : Nat) (s : Nat → Int × Int × Int) (w : World) (hsa : StepsAt w a len s ∧ len ≤ cap ∧ cap ≤ maxLen) :
    Calls Try.prog 4 #[.int .i64 n, .slice a len cap] w fun e w' => e = .returned (.bool true) ∧ Below w.heap.size w w' := by
  obtain ⟨hs, hlc, hcm⟩ := hsa
  unfold maxLen at hcm
  have HSt := Lib.hid hs
  clear hs
  go_enter Try.func4, Try.ntmps4
  go_wp2_with fail
  refine (new_yes _ 2 (by omega) (by omega)).mono ?_
  rintro e w1 ⟨z, rfl, hz, hb1, hzn⟩
  have HZ := Lib.hid hz
  have HB1 := Lib.hid hb1
  have HZN := Lib.hid hzn
  clear hz hb1 hzn
  go_wp2_with fail
  refine (join_any _ z 2 [] HZ.out 1 0).mono ?_
  rintro e w2 ⟨z', rfl, _, hm2⟩
  have HB2 : Hid (Below w.heap.size w w2) := Moved.below HB1.out hm2 HZN.out (Nat.le_refl _)
  rw [show joinB 2 [] 1 0 = true from by decide, show joinE 2 1 0 = .nilIface from rfl]
  clear hm2
  by_cases hn : n < 1 ∨ 60 < n
  · go_wp2_with fail
    refine (new_no _ n hn).mono ?_
    rintro e w3 ⟨rfl, hb3⟩
    have HB3 := Lib.hid hb3
    clear hb3
    go_wp2_with fail
    refine (new_no _ n hn).mono ?_
    rintro e w4 ⟨rfl, hb4⟩
    have HB4 := Lib.hid hb4
    clear hb4
    go_wp2
    go_ret
    exact ⟨rfl, (HB2.out.trans (HB3.out.mono HB2.out.size)).trans (HB4.out.mono (Nat.le_trans HB2.out.size HB3.out.size))⟩
  · obtain ⟨n, rfl⟩ := Int.eq_ofNat_of_zero_le (show 0 ≤ n by omega)
    have h1 : 0 < n := by omega
    have h2 : n ≤ 60 := by omega
    clear hn
    go_wp2_with fail
    refine (new_yes _ n h1 h2).mono ?_
    rintro e w3 ⟨u, rfl, hu, hb3, hun⟩
    have HU := Lib.hid hu
    have HB3 := Lib.hid hb3
    have HUN := Lib.hid hun
    clear hu hb3 hun
    go_wp2_with fail
    refine (new_yes _ n h1 h2).mono ?_
    rintro e w4 ⟨v, rfl, hv, hb4, hvn⟩
    have HT : Hid (Two w n u.g v.g [] [] u v w4) := Two.start HB2.out HU.out HB3.out HUN.out hv hb4 hvn
    clear hv hb4 hvn HB2 HB3 HU HUN HZ HB1 HZN
    obtain ⟨g1, hg1⟩ : ∃ g1, g1 = u.g := ⟨_, rfl⟩
    obtain ⟨g2, hg2⟩ : ∃ g2, g2 = v.g := ⟨_, rfl⟩
    have HT' : Hid (TwoAt w n g1 g2 [] [] w4) := ⟨u, v, by rw [hg1, hg2]; exact HT.out⟩
    rw [← hg1, ← hg2]
    clear hg1 hg2 HT
    go_wp2
    go_loopw [12] (fun v wr => ∃ k : Nat, k ≤ len ∧ k ≤ 60 ∧ v = .int .i64 k ∧ Uo1 w n g1 g2 (fun i => (s i).2) k wr) (fun v _ => len - (intOf v).toNat)
    case atStart => exact ⟨0, Nat.zero_le _, Nat.zero_le _, rfl, HT'.out⟩
    case round =>
      obtain ⟨k, hk, hk6, rfl, hR⟩ := hrel
      have HR := Lib.hid hR
      clear hR HT'
      by_cases c0 : k < len ∧ k < 60
      · obtain ⟨c1, c2⟩ := c0
        obtain ⟨u, v, hT⟩ := HR.out
        have HT := Lib.hid hT
        rcases HSt.out.chg hT.below with h0 | ⟨b, off, rfl, hlt, hc⟩
        · omega
        obtain ⟨x, y, hxy, hx, hy⟩ := stepInt wr s hc c1
        have HXY := Lib.hid hxy
        have z0 : (0 : Int) ≤ (k : Int) := by omega
        have z1 : (k : Int) < (len : Int) := by omega
        clear hT hxy hc
        go_wp2
        go_still_tail 11, (by kernel_rfl)
        go_wp2_with fail
        refine (join_at HT.out.atu.drew HT.out.pg x y).mono ?_
        rintro e w' ⟨u', rfl, hu', hm'⟩
        have HN : Hid (Uo1 w n g1 g2 (fun i => (s i).2) (k + 1) w') := ⟨u', v, (HT.out.new (Below.refl _ _).drew).left (by simp only [joinsTo, HXY.out]; exact hu') hm'⟩
        clear hu' hm'
        go_wp2
        go_roundw
        case rel => exact ⟨k + 1, by omega, by omega, by go_num, HN.out⟩
        case measure => simp [intOf]; omega
      · obtain ⟨m, hm⟩ : ∃ m, m = min len 60 := ⟨_, rfl⟩
        have HM := Lib.hid hm
        have HE : Hid (Uo2 w n g1 g2 (fun i => (s i).2) (fun j => ((s (m - 1 - j)).2.2, (s (m - 1 - j)).2.1)) m len wr) := by
          have e1 : k = m := by omega
          have e2 : m - min len m = 0 := by omega
          have := HR.out
          rw [e1] at this
          unfold Hid Uo2
          rw [e2]; exact this
        clear HR hm
        have hcase : (k < len ∧ ¬ k < 60) ∨ ¬ k < len := by omega
        clear c0
        rcases hcase with ⟨c1, c2⟩ | c1
        all_goals
          go_wp2
          clear c1
          go_loopw [13] (fun v wr => ∃ t : Nat, t ≤ len ∧ v = .int .i64 ((t : Int) - 1) ∧ Uo2 w n g1 g2 (fun i => (s i).2) (fun j => ((s (m - 1 - j)).2.2, (s (m - 1 - j)).2.1)) m t wr) (fun v _ => (intOf v + 1).toNat)
          case atStart => exact ⟨len, Nat.le_refl _, rfl, HE.out⟩
          case round =>
            obtain ⟨t, ht, rfl, hR⟩ := hrel
            have HR := Lib.hid hR
            clear hR HE
            by_cases ht0 : t = 0
            · subst ht0
              rw [show (((0 : Nat) : Int) - 1) = -1 from rfl]
              obtain ⟨hs, hhs⟩ : ∃ hs, hs = joinsTo n (fun i => (s i).2) m := ⟨_, rfl⟩
              obtain ⟨ks, hks⟩ : ∃ ks, ks = joinsTo n (fun j => ((s (m - 1 - j)).2.2, (s (m - 1 - j)).2.1)) m := ⟨_, rfl⟩
              have HT : Hid (TwoAt w n g1 g2 hs ks wr) := by rw [hhs, hks]; have := HR.out; unfold Uo2 at this; rw [show m - min 0 m = m by omega] at this; exact this
              have HQ : Hid (UF.Ok n hs ∧ UF.Ok n ks ∧ ∀ x y, UF.rt hs x = UF.rt hs y ↔ UF.rt ks x = UF.rt ks y) := by
                rw [hhs, hks]; exact ⟨joinsTo_ok _ _ _, joinsTo_ok _ _ _, order_same (fun j _ => rfl)⟩
              clear HR hhs hks
              go_wp2
              go_loopw [14] (fun v wr => ∃ p : Nat, p ≤ n ∧ v = .int .i64 p ∧ TwoAt w n g1 g2 hs ks wr) (fun v _ => n - (intOf v).toNat)
              case atStart => exact ⟨0, Nat.zero_le _, rfl, HT.out⟩
              case round =>
                obtain ⟨p, hp, rfl, hR⟩ := hrel
                have HR := Lib.hid hR
                clear hR HT
                by_cases c4 : p < n
                · obtain ⟨u, v, hT⟩ := HR.out
                  have HT := Lib.hid hT
                  clear hT HR
                  go_wp2_with fail
                  refine (size_at HT.out.atu HT.out.pg p c4).mono ?_
                  rintro e w5 ⟨rfl, hb5⟩
                  have HT5 := Lib.hid (HT.out.new hb5)
                  clear hb5
                  go_wp2_with fail
                  refine (size_at HT5.out.atv HT5.out.qg p c4).mono ?_
                  rintro e w6 ⟨rfl, hb6⟩
                  have HT6 : Hid (TwoAt w n g1 g2 hs ks w6) := ⟨u, v, HT5.out.new hb6⟩
                  clear hb6 HT HT5
                  rw [← UF.same_sz HQ.out.1 HQ.out.2.1 (fun x y _ _ => HQ.out.2.2 x y) c4]
                  go_wp2
                  go_loopw [19] (fun v wr => ∃ q : Nat, q ≤ p ∧ v = .int .i64 q ∧ TwoAt w n g1 g2 hs ks wr) (fun v _ => p - (intOf v).toNat)
                  case atStart => exact ⟨0, Nat.zero_le _, rfl, HT6.out⟩
                  case round =>
                    obtain ⟨q, hq, rfl, hR⟩ := hrel
                    have HR := Lib.hid hR
                    clear hR HT6
                    by_cases c5 : q < p
                    · obtain ⟨u, v, hT⟩ := HR.out
                      have HT := Lib.hid hT
                      clear hT HR
                      go_wp2_with fail
                      refine (same_at HT.out.atu HT.out.pg p q c4 (by omega)).mono ?_
                      rintro e w7 ⟨rfl, hb7⟩
                      have HT7 := Lib.hid (HT.out.new hb7)
                      clear hb7
                      go_wp2_with fail
                      refine (same_at HT7.out.atv HT7.out.qg q p (by omega) c4).mono ?_
                      rintro e w8 ⟨rfl, hb8⟩
                      have HT8 : Hid (TwoAt w n g1 g2 hs ks w8) := ⟨u, v, HT7.out.new hb8⟩
                      clear hb8 HT HT7
                      rw [show (UF.rt ks q == UF.rt ks p) = (UF.rt hs p == UF.rt hs q) by
                        rw [Bool.eq_iff_iff, beq_iff_eq, beq_iff_eq, ← HQ.out.2.2]; exact ⟨Eq.symm, Eq.symm⟩]
                      go_wp2
                      go_roundw
                      case rel => exact ⟨q + 1, by omega, by go_num, HT8.out⟩
                      case measure => simp [intOf]; omega
                    · go_wp2
                      go_roundw
                      case rel => exact ⟨p + 1, by omega, by go_num, HR.out⟩
                      case measure => simp [intOf]; omega
                · obtain ⟨u, v, hT⟩ := HR.out
                  have HT := Lib.hid hT
                  have hlen : hs.length = ks.length := UF.same_len HQ.out.1 HQ.out.2.1 (fun x y _ _ => HQ.out.2.2 x y)
                  have HLen := Lib.hid hlen
                  have hl1 := UF.len_lt HQ.out.1 h1
                  clear hT HR hlen
                  go_wp2_with fail
                  refine (parts_at HT.out.atu HT.out.pg).mono ?_
                  rintro e w9 ⟨rfl, rfl⟩
                  go_wp2_with fail
                  refine (parts_at HT.out.atv HT.out.qg).mono ?_
                  rintro e w9 ⟨rfl, rfl⟩
                  rw [← HLen.out]
                  go_wp2_with fail
                  refine (mark_at HT.out.atu HT.out.pg).mono ?_
                  rintro e w9 ⟨rfl, rfl⟩
                  go_wp2_with fail
                  refine (mark_at HT.out.atv HT.out.qg).mono ?_
                  rintro e w9 ⟨rfl, rfl⟩
                  rw [← HLen.out]
                  go_wp2
                  go_ret
                  exact ⟨rfl, HT.out.below⟩
            · obtain ⟨t, rfl⟩ : ∃ t', t = t' + 1 := ⟨t - 1, by omega⟩
              clear ht0
              rw [show (((t + 1 : Nat) : Int) - 1) = (t : Int) by omega]
              by_cases c3 : t < 60
              · obtain ⟨u, v, hT⟩ := HR.out
                have HT := Lib.hid hT
                rcases HSt.out.chg hT.below with h0 | ⟨b, off, rfl, hlt, hc⟩
                · omega
                obtain ⟨x, y, hxy, hx, hy⟩ := stepInt wr s hc (show t < len by omega)
                have HXY := Lib.hid hxy
                have z0 : (0 : Int) ≤ (t : Int) := by omega
                have z1 : (t : Int) < (len : Int) := by omega
                clear hT hxy hc
                go_wp2
                go_still_tail 11, (by kernel_rfl)
                go_wp2_with fail
                refine (join_at HT.out.atv.drew HT.out.qg y x).mono ?_
                rintro e w' ⟨v', rfl, hv', hm'⟩
                have HN : Hid (Uo2 w n g1 g2 (fun i => (s i).2) (fun j => ((s (m - 1 - j)).2.2, (s (m - 1 - j)).2.1)) m t w') := by
                  have hm := HM.out
                  refine ⟨u, v', (HT.out.new (Below.refl _ _).drew).right ?_ hm'⟩
                  rw [min_step (show t + 1 ≤ m by omega)]
                  simp only [joinsTo]
                  rw [show m - 1 - (m - min (t + 1) m) = t by omega, HXY.out]
                  exact hv'
                clear hv' hm'
                go_wp2
                go_roundw
                case rel => exact ⟨t, by omega, rfl, HN.out⟩
                case measure => simp [intOf]
              · have HN : Hid (Uo2 w n g1 g2 (fun i => (s i).2) (fun j => ((s (m - 1 - j)).2.2, (s (m - 1 - j)).2.1)) m t wr) := by
                  have hm := HM.out
                  have := HR.out
                  unfold Hid
                  unfold Uo2 at this ⊢
                  rw [show m - min (t + 1) m = m - min t m by omega] at this
                  exact this
                go_wp2
                go_roundw
                case rel => exact ⟨t, by omega, rfl, HN.out⟩
                case measure => simp [intOf]
end Go.Proofs.Ytnoekneeefpleaa
