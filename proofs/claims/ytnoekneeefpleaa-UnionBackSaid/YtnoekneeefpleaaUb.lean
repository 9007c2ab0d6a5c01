/-
  Taken back all is as it was: the walk of UnionBack. Condition: the steps are read as 'StepsAt' says.
-/
import Derived.Test.YtnoekneeefpleaaUo
namespace Go.Proofs.Ytnoekneeefpleaa
open Go Go.RowKit

theorem infoBool : (Try.prog.info? 4).map (fun i => (i.zero, i.size, i.bytes)) = some (some (.bool false), 1, 1) := by kernel_rfl
def tri : Nat → Nat
  | 0 => 0
  | a + 1 => tri a + a
/-- What was asked of pairs, row by row. -/
def rowsTo (r : Nat → Nat → Bool) : Nat → List Bool
  | 0 => []
  | a + 1 => rowsTo r a ++ (List.range a).map (r a)
def wasTo (r : Nat → Nat → Bool) (a b : Nat) : List Bool := rowsTo r a ++ (List.range b).map (r a)
theorem rowsTo_len (r : Nat → Nat → Bool) : ∀ a, (rowsTo r a).length = tri a
  | 0 => rfl
  | a + 1 => by simp [rowsTo, tri, rowsTo_len r a]
theorem wasTo_len (r : Nat → Nat → Bool) (a b : Nat) : (wasTo r a b).length = tri a + b := by simp [wasTo, rowsTo_len]
theorem wasTo_succ (r : Nat → Nat → Bool) (a b : Nat) : wasTo r a (b + 1) = wasTo r a b ++ [r a b] := by simp [wasTo, List.range_succ]
theorem wasTo_row (r : Nat → Nat → Bool) (a : Nat) : wasTo r a a = wasTo r (a + 1) 0 := by simp [wasTo, rowsTo]
theorem tri_le {a n : Nat} (h : a ≤ n) : tri a ≤ a * n := by
  induction a with
  | zero => simp [tri]
  | succ a ih => have := ih (by omega); simp only [tri, Nat.succ_mul]; omega
theorem tri_mono {a n : Nat} (h : a ≤ n) : tri a ≤ tri n := by
  induction n with
  | zero => have : a = 0 := by omega
            subst this; exact Nat.le_refl _
  | succ n ih =>
    by_cases e : a = n + 1
    · subst e; exact Nat.le_refl _
    · have := ih (by omega); simp only [tri]; omega
theorem rowsTo_get {r : Nat → Nat → Bool} {a b n : Nat} (hb : b < a) (ha : a < n) : (rowsTo r n)[tri a + b]? = some (r a b) := by
  induction n with
  | zero => omega
  | succ n ih =>
    simp only [rowsTo]
    have hm : tri (a + 1) = tri a + a := rfl
    by_cases e : a = n
    · subst e
      rw [List.getElem?_append_right (by rw [rowsTo_len]; omega), rowsTo_len, show tri a + b - tri a = b by omega]
      simp [hb]
    · have hl := tri_mono (show a + 1 ≤ n by omega)
      rw [List.getElem?_append_left (by rw [rowsTo_len]; omega)]
      exact ih (by omega)

/-- A union and what was asked of it, all of it new. -/
def UbRel (w : World) (n g : Nat) (hs : UF.Hs) (wl : List Bool) (wv : Value) (wr : World) : Prop :=
  ∃ u : Uni, u.g = g ∧ UAt wr u n hs ∧ (∀ k, u.fp k → w.heap.size ≤ k) ∧ Below w.heap.size w wr ∧ wr.ownsRow 0 4 1 wv wl.length (wl.map Value.bool) ∧ ∀ k, wv.ownBlock = some k → w.heap.size ≤ k ∧ ¬ u.fp k
section
variable {w wr w' : World} {n g : Nat} {hs hs' : UF.Hs} {wl : List Bool} {wv : Value}
theorem UbRel.row (h : UbRel w n g hs wl wv wr) : wr.ownsRow 0 4 1 wv wl.length (wl.map Value.bool) := by obtain ⟨u, _, _, _, _, h5, _⟩ := h; exact h5
theorem UbRel.new (h : UbRel w n g hs wl wv wr) (hb : Below wr.heap.size wr w') : UbRel w n g hs wl wv w' := by
  obtain ⟨u, h1, h2, h3, h4, h5, h6⟩ := h
  exact ⟨u, h1, h2.new hb, h3, h4.trans (hb.mono h4.size), own_chg h5 (Chg.new hb (fun _ => False)) (fun _ _ h => h), h6⟩
theorem UbRel.moved {u u' : Uni} (h1 : u.g = g) (h3 : ∀ k, u.fp k → w.heap.size ≤ k) (h4 : Below w.heap.size w wr) (h5 : wr.ownsRow 0 4 1 wv wl.length (wl.map Value.bool)) (h6 : ∀ k, wv.ownBlock = some k → w.heap.size ≤ k ∧ ¬ u.fp k)
    (k1 : UAt w' u' n hs') (k2 : Moved wr u u' w') : UbRel w n g hs' wl wv w' := by
  refine ⟨u', k2.1.trans h1, k1, fun k hk => ?_, Moved.below h4 k2 h3 (Nat.le_refl _), own_chg h5 k2.2.1 (fun k hk => (h6 k hk).2), fun k hk => ⟨(h6 k hk).1, fun hk' => ?_⟩⟩
  · rcases k2.2.2 k hk with h | h
    · exact h3 k h
    · have := h4.size; omega
  · rcases k2.2.2 k hk' with h | h
    · exact (h6 k hk).2 h
    · have := own_block_lt h5 hk; omega
theorem UbRel.push {gw c : Nat} {b : Bool} {o : Obj} (h : UbRel w n g hs wl wv wr)
    (ho : w'.ownsRow 0 4 1 (.slice (some ⟨gw, 0, none⟩) (wl.length + 1) c) (wl.length + 1) (wl.map Value.bool ++ [.bool b])) (hc : Chg (fun k => wv.ownBlock = some k) (wr.alloc o) w') (hat : wv.ownBlock = some gw ∨ gw = (wr.alloc o).heap.size) :
    UbRel w n g hs (wl ++ [b]) (.slice (some ⟨gw, 0, none⟩) (wl.length + 1) c) w' := by
  obtain ⟨u, h1, h2, h3, h4, h5, h6⟩ := h
  have hz := h4.size
  refine ⟨u, h1, (h2.alloc o).chg hc (fun k hk hk' => (h6 k hk').2 hk), h3, ?_, by simpa using ho, fun k hk => ?_⟩
  · exact (((Chg.of_below h4).alloc o).trans hc (fun k _ hk => (h6 k hk).1)).below (Nat.le_refl _) (fun _ _ h => h)
  · simp [Value.ownBlock] at hk
    subst hk
    rcases hat with h | h
    · exact h6 _ h
    · simp only [World.size_alloc] at h
      exact ⟨by omega, fun hk => by have := h2.lt hk; omega⟩
end
theorem back_at {w : World} {u : Uni} {n g : Nat} {hs : UF.Hs} (h : UAt w u n hs) (hg : u.g = g) (m : Nat) (hm : m ≤ hs.length) :
    Calls Try.prog 18 #[.pointer (some ⟨g, 0, none⟩), .int .i64 m] w (BackPost w u n m hs) := by subst hg; exact back_yes w u n hs h m hm
theorem joinI_suffix (n : Nat) (hs : UF.Hs) (a b : Int) : ∃ pre, joinI n hs a b = pre ++ hs := by
  unfold joinI UF.join
  split
  · split
    · exact ⟨[], rfl⟩
    · split
      · exact ⟨[_], rfl⟩
      · exact ⟨[_], rfl⟩
  · exact ⟨[], rfl⟩
/-- More nodes put together. -/
def joinsFrom (n : Nat) (hs : UF.Hs) (f : Nat → Int × Int) : Nat → UF.Hs
  | 0 => hs
  | k + 1 => joinI n (joinsFrom n hs f k) (f k).1 (f k).2
theorem joinsFrom_suffix (n : Nat) (hs : UF.Hs) (f : Nat → Int × Int) : ∀ k, ∃ pre, joinsFrom n hs f k = pre ++ hs
  | 0 => ⟨[], rfl⟩
  | k + 1 => by
    obtain ⟨p, h⟩ := joinsFrom_suffix n hs f k
    obtain ⟨q, h'⟩ := joinI_suffix n (joinsFrom n hs f k) (f k).1 (f k).2
    exact ⟨q ++ p, by simp only [joinsFrom]; rw [h', h, List.append_assoc]⟩
theorem joinsFrom_back (n : Nat) (hs : UF.Hs) (f : Nat → Int × Int) (k : Nat) : hs.length ≤ (joinsFrom n hs f k).length ∧ (joinsFrom n hs f k).drop ((joinsFrom n hs f k).length - hs.length) = hs := by
  obtain ⟨p, h⟩ := joinsFrom_suffix n hs f k
  rw [h]
  refine ⟨by simp, ?_⟩
  rw [show (p ++ hs).length - hs.length = p.length by simp, List.drop_left]
theorem joinsFrom_ok {n : Nat} {hs : UF.Hs} (h : UF.Ok n hs) (f : Nat → Int × Int) : ∀ k, UF.Ok n (joinsFrom n hs f k)
  | 0 => h
  | k + 1 => joinI_ok (joinsFrom_ok h f k) _ _

/-- The pairs' answer of now. -/
def nowR (hs : UF.Hs) (a b : Nat) : Bool := UF.rt hs a == UF.rt hs b
set_option maxRecDepth 100000 in
set_option maxHeartbeats 2000000 in
theorem ub_walk (n : Int) (a1 : Option Addr) (len1 cap1 : Nat) (s1 : Nat → Int × Int × Int) (a2 : Option Addr) (len2 cap2 : Nat) (s2 : Nat → Int × Int × Int) (w : World) (hsa : StepsAt w a1 len1 s1 ∧ len1 ≤ cap1 ∧ cap1 ≤ maxLen) (hsb : StepsAt w a2 len2 s2 ∧ len2 ≤ cap2 ∧ cap2 ≤ maxLen) :
    Calls Try.prog 5 #[.int .i64 n, .slice a1 len1 cap1, .slice a2 len2 cap2] w fun e w' => e = .returned (.bool true) ∧ Below w.heap.size w w' := by
  obtain ⟨hst1, hlc1, hcm1⟩ := hsa
  obtain ⟨hst2, hlc2, hcm2⟩ := hsb
  unfold maxLen at hcm1 hcm2
  have HS1 := Lib.hid hst1
  have HS2 := Lib.hid hst2
  clear hst1 hst2
  go_enter Try.func5, Try.ntmps5
  go_wp2_with fail
  refine (new_yes _ 3 (by omega) (by omega)).mono ?_
  rintro e w1 ⟨z, rfl, hz, hb1, hzn⟩
  have HZ := Lib.hid hz
  have HB1 := Lib.hid hb1
  have HZN := Lib.hid hzn
  clear hz hb1 hzn
  go_wp2_with fail
  refine (join_any _ z 3 [] HZ.out 0 1).mono ?_
  rintro e w2 ⟨z', rfl, hz2, hm2⟩
  have HZ2 := Lib.hid hz2
  have HM2 := Lib.hid hm2
  rw [show joinB 3 [] 0 1 = true from by decide, show joinE 3 0 1 = .nilIface from rfl]
  clear hz2 hm2
  go_wp2_with fail
  refine (back_at HZ2.out HM2.out.1 0 (Nat.zero_le _)).mono ?_
  rintro e w3 ⟨z3, rfl, hz3, hm3⟩
  have HZ3 : Hid (UAt w3 z3 3 []) := by unfold Hid; simpa using hz3
  have HM3 := Lib.hid (HM2.out.trans hm3)
  clear hz3 hm3
  go_wp2_with fail
  refine (parts_at HZ3.out HM3.out.1).mono ?_
  rintro e w9 ⟨rfl, rfl⟩
  have HB3 : Hid (Below w.heap.size w w3) := Moved.below HB1.out HM3.out HZN.out (Nat.le_refl _)
  clear HM3 HM2 HZ2 HZ3 HZ HZN HB1
  by_cases hn : n < 1 ∨ 60 < n
  · go_wp2_with fail
    refine (new_no _ n hn).mono ?_
    rintro e w4 ⟨rfl, hb4⟩
    have HB4 := Lib.hid hb4
    clear hb4
    go_wp2
    go_ret
    exact ⟨rfl, HB3.out.trans (HB4.out.mono HB3.out.size)⟩
  · obtain ⟨n, rfl⟩ := Int.eq_ofNat_of_zero_le (show 0 ≤ n by omega)
    have h1 : 0 < n := by omega
    have h2 : n ≤ 60 := by omega
    clear hn
    go_wp2_with fail
    refine (new_yes _ n h1 h2).mono ?_
    rintro e w4 ⟨u, rfl, hu, hb4, hun⟩
    obtain ⟨g, hg⟩ : ∃ g, g = u.g := ⟨_, rfl⟩
    have HU : Hid (UbRel w n g [] [] (.slice none 0 0) w4) := by
      have := HB3.out.size
      exact ⟨u, hg.symm, hu, fun k hk => by have := hun k hk; omega, HB3.out.trans (hb4.mono HB3.out.size), World.ownsRow_nil _ _ _ _, by simp [Value.ownBlock]⟩
    rw [← hg]
    clear hu hb4 hun hg HB3
    go_wp2
    go_loopw [13] (fun v wr => ∃ k : Nat, k ≤ len1 ∧ k ≤ 60 ∧ v = .int .i64 k ∧ UbRel w n g (joinsTo n (fun i => (s1 i).2) k) [] (.slice none 0 0) wr) (fun v _ => len1 - (intOf v).toNat)
    case atStart => exact ⟨0, Nat.zero_le _, Nat.zero_le _, rfl, HU.out⟩
    case round =>
      obtain ⟨k, hk, hk6, rfl, hR⟩ := hrel
      have HR := Lib.hid hR
      clear hR HU
      by_cases c0 : k < len1 ∧ k < 60
      · obtain ⟨c1, c2⟩ := c0
        obtain ⟨u, j1, j2, j3, j4, j5, j6⟩ := HR.out
        rcases HS1.out.chg j4 with h0 | ⟨b, off, rfl, hlt, hc⟩
        · omega
        obtain ⟨x, y, hxy, hx, hy⟩ := stepInt wr s1 hc c1
        have HXY := Lib.hid hxy
        have J1 := Lib.hid j1
        have J2 := Lib.hid j2
        have J3 := Lib.hid j3
        have J4 := Lib.hid j4
        have J5 := Lib.hid j5
        have J6 := Lib.hid j6
        have z0 : (0 : Int) ≤ (k : Int) := by omega
        have z1 : (k : Int) < (len1 : Int) := by omega
        clear hxy hc j1 j2 j3 j4 j5 j6 HR
        go_wp2
        go_still_tail 11, (by kernel_rfl)
        go_wp2_with fail
        refine (join_at J2.out.drew J1.out x y).mono ?_
        rintro e w' ⟨u', rfl, hu', hm'⟩
        have HN : Hid (UbRel w n g (joinsTo n (fun i => (s1 i).2) (k + 1)) [] (.slice none 0 0) w') :=
          UbRel.moved J1.out J3.out J4.out.drew J5.out.drew J6.out (by simp only [joinsTo, HXY.out]; exact hu') hm'
        clear hu' hm'
        go_wp2
        go_roundw
        case rel => exact ⟨k + 1, by omega, by omega, by go_num, HN.out⟩
        case measure => simp [intOf]; omega
      · obtain ⟨hs, hhs⟩ : ∃ hs, hs = joinsTo n (fun i => (s1 i).2) k := ⟨_, rfl⟩
        have HE : Hid (UbRel w n g hs [] (.slice none 0 0) wr) := by rw [hhs]; exact HR.out
        have HO : Hid (UF.Ok n hs) := by rw [hhs]; exact joinsTo_ok _ _ _
        have hl1 := UF.len_lt HO.out h1
        clear HR hhs
        have hcase : (k < len1 ∧ ¬ k < 60) ∨ ¬ k < len1 := by omega
        clear c0
        rcases hcase with ⟨c1, c2⟩ | c1
        all_goals
          obtain ⟨u, j1, j2, j3, j4, j5, j6⟩ := HE.out
          have J1 := Lib.hid j1
          have J2 := Lib.hid j2
          clear j1 j2 j3 j4 j5 j6
          go_wp2_with fail
          refine (mark_at J2.out J1.out).mono ?_
          rintro e w9 ⟨rfl, rfl⟩
          go_wp2_with fail
          refine (parts_at J2.out J1.out).mono ?_
          rintro e w9 ⟨rfl, rfl⟩
          clear J1 J2
          go_wp2
          clear c1
          go_loopw [16, 17] (fun v i wr => ∃ p : Nat, p ≤ n ∧ i = .int .i64 p ∧ UbRel w n g hs (wasTo (nowR hs) p 0) v wr) (fun _ i _ => n - (intOf i).toNat)
          case atStart => exact ⟨0, Nat.zero_le _, rfl, HE.out⟩
          case round =>
            obtain ⟨p, hp, rfl, hR⟩ := hrel
            have HR := Lib.hid hR
            clear hR HE
            by_cases c4 : p < n
            · have htp : tri p ≤ 3600 := Nat.le_trans (tri_le (Nat.le_refl p)) (Nat.mul_le_mul (show p ≤ 60 by omega) (show p ≤ 60 by omega))
              go_wp2
              go_loopw [16, 18] (fun v j wr => ∃ q : Nat, q ≤ p ∧ j = .int .i64 q ∧ UbRel w n g hs (wasTo (nowR hs) p q) v wr) (fun _ j _ => p - (intOf j).toNat)
              case atStart => exact ⟨0, Nat.zero_le _, rfl, HR.out⟩
              case round =>
                obtain ⟨q, hq, rfl, hR⟩ := hrel
                have HQ := Lib.hid hR
                clear hR HR
                by_cases c5 : q < p
                · obtain ⟨u, j1, j2, _⟩ := HQ.out
                  have J1 := Lib.hid j1
                  have J2 := Lib.hid j2
                  clear j1 j2
                  go_wp2_with fail
                  refine (same_at J2.out J1.out p q c4 (by omega)).mono ?_
                  rintro e w7 ⟨rfl, hb7⟩
                  have HQ7 := Lib.hid (HQ.out.new hb7)
                  have HN : (wasTo (nowR hs) p q).length ≤ 10000 := by rw [wasTo_len]; omega
                  clear hb7 HQ J1 J2
                  go_wp2_with (first
                    | (at_builtin; refine wpList_push _ rfl (.tmp 107) (.tmp 109) 41 rfl 4 (.bool false) 1 Try.underlying41 infoBool rfl _ _ _ rfl ((UbRel.row HQ7.out).alloc _) ⟨by omega, by omega⟩ (.bool (UF.rt hs p == UF.rt hs q)) w7.heap.size rfl (cell_new1 rfl _ _) rfl ?_; intro gw c w8 ho8 hc8 hat8 _; have HP := Lib.hid (UbRel.push HQ7.out ho8 hc8 hat8); clear ho8 hc8 hat8))
                  go_roundw
                  case rel => exact ⟨q + 1, by omega, by go_num, by rw [wasTo_succ]; exact HP.out⟩
                  case measure => simp [intOf]; omega
                · have hq2 := HQ.out
                  rw [show q = p by omega, wasTo_row] at hq2
                  have HQ2 := Lib.hid hq2
                  clear hq2
                  go_wp2
                  go_roundw
                  case rel => exact ⟨p + 1, by omega, by go_num, HQ2.out⟩
                  case measure => simp [intOf]; omega
            · obtain ⟨W, hW⟩ : ∃ W, W = wasTo (nowR hs) n 0 := ⟨_, rfl⟩
              have hq := HR.out
              rw [show p = n by omega, ← hW] at hq
              have HQ := Lib.hid hq
              have HW : Hid (W = rowsTo (nowR hs) n) := by rw [hW]; simp [wasTo, Hid]
              have htn : W.length ≤ 3600 := by rw [hW, wasTo_len]; exact Nat.le_trans (tri_le (Nat.le_refl n)) (Nat.mul_le_mul h2 h2)
              clear hW HR hq
              go_wp2
              go_loopw [21] (fun i wr => ∃ t : Nat, t ≤ len2 ∧ t ≤ 60 ∧ i = .int .i64 t ∧ UbRel w n g (joinsFrom n hs (fun i => (s2 i).2) t) W _ wr) (fun i _ => len2 - (intOf i).toNat)
              case atStart => exact ⟨0, Nat.zero_le _, Nat.zero_le _, rfl, HQ.out⟩
              case round =>
                obtain ⟨t, ht, ht6, rfl, hR⟩ := hrel
                have HR := Lib.hid hR
                clear hR HQ
                by_cases c6 : t < len2 ∧ t < 60
                · obtain ⟨c7, c8⟩ := c6
                  obtain ⟨u, j1, j2, j3, j4, j5, j6⟩ := HR.out
                  rcases HS2.out.chg j4 with h0 | ⟨b, off, rfl, hlt, hc⟩
                  · omega
                  obtain ⟨x, y, hxy, hx, hy⟩ := stepInt wr s2 hc c7
                  have HXY := Lib.hid hxy
                  have J1 := Lib.hid j1
                  have J2 := Lib.hid j2
                  have J3 := Lib.hid j3
                  have J4 := Lib.hid j4
                  have J5 := Lib.hid j5
                  have J6 := Lib.hid j6
                  have z0 : (0 : Int) ≤ (t : Int) := by omega
                  have z1 : (t : Int) < (len2 : Int) := by omega
                  clear hxy hc j1 j2 j3 j4 j5 j6 HR
                  go_wp2
                  go_still_tail 11, (by kernel_rfl)
                  go_wp2_with fail
                  refine (join_at J2.out.drew J1.out x y).mono ?_
                  rintro e w' ⟨u', rfl, hu', hm'⟩
                  have HN := Lib.hid (UbRel.moved (hs' := joinsFrom n hs (fun i => (s2 i).2) (t + 1)) J1.out J3.out J4.out.drew J5.out.drew J6.out (by simp only [joinsFrom, HXY.out]; exact hu') hm')
                  clear hu' hm'
                  go_wp2
                  go_roundw
                  case rel => exact ⟨t + 1, by omega, by omega, by go_num, HN.out⟩
                  case measure => simp [intOf]; omega
                · have hcase : (t < len2 ∧ ¬ t < 60) ∨ ¬ t < len2 := by omega
                  clear c6
                  rcases hcase with ⟨c1, c2⟩ | c1
                  all_goals
                    obtain ⟨u, j1, j2, j3, j4, j5, j6⟩ := HR.out
                    have J1 := Lib.hid j1
                    have J2 := Lib.hid j2
                    have J3 := Lib.hid j3
                    have J4 := Lib.hid j4
                    have J5 := Lib.hid j5
                    have J6 := Lib.hid j6
                    clear j1 j2 j3 j4 j5 j6 HR
                    go_wp2_with fail
                    clear c1
                    refine (back_at J2.out J1.out hs.length (joinsFrom_back n hs (fun i => (s2 i).2) t).1).mono ?_
                    rintro e w' ⟨u', rfl, hu', hm'⟩
                    rw [(joinsFrom_back n hs (fun i => (s2 i).2) t).2] at hu'
                    have HU' := Lib.hid hu'
                    have HM' := Lib.hid hm'
                    have HN := Lib.hid (UbRel.moved (hs' := hs) J1.out J3.out J4.out J5.out J6.out hu' hm')
                    clear hu' hm' J2 J3 J4 J5 J6
                    go_wp2_with fail
                    refine (mark_at HU'.out (HM'.out.1.trans J1.out)).mono ?_
                    rintro e w9 ⟨rfl, rfl⟩
                    go_wp2_with fail
                    refine (parts_at HU'.out (HM'.out.1.trans J1.out)).mono ?_
                    rintro e w9 ⟨rfl, rfl⟩
                    clear HU' HM' J1
                    go_wp2
                    go_loopw [22, 23] (fun kk i wr => ∃ p : Nat, p ≤ n ∧ kk = .int .i64 (tri p) ∧ i = .int .i64 p ∧ UbRel w n g hs W _ wr) (fun _ i _ => n - (intOf i).toNat)
                    case atStart => exact ⟨0, Nat.zero_le _, rfl, rfl, HN.out⟩
                    case round =>
                      obtain ⟨p, hp, rfl, rfl, hR⟩ := hrel
                      have HR := Lib.hid hR
                      clear hR HN
                      by_cases c4 : p < n
                      · have htp : tri p ≤ 3600 := Nat.le_trans (tri_le (Nat.le_refl p)) (Nat.mul_le_mul (show p ≤ 60 by omega) (show p ≤ 60 by omega))
                        go_wp2
                        go_loopw [22, 24] (fun kk j wr => ∃ q : Nat, q ≤ p ∧ kk = .int .i64 ((tri p : Int) + (q : Int)) ∧ j = .int .i64 q ∧ UbRel w n g hs W _ wr) (fun _ j _ => p - (intOf j).toNat)
                        case atStart => exact ⟨0, Nat.zero_le _, by go_num, rfl, HR.out⟩
                        case round =>
                          obtain ⟨q, hq, rfl, rfl, hR⟩ := hrel
                          have HQ := Lib.hid hR
                          clear hR HR
                          by_cases c5 : q < p
                          · obtain ⟨u, j1, j2, _⟩ := HQ.out
                            have J1 := Lib.hid j1
                            have J2 := Lib.hid j2
                            clear j1 j2
                            go_wp2_with fail
                            refine (same_at J2.out J1.out p q c4 (by omega)).mono ?_
                            rintro e w7 ⟨rfl, hb7⟩
                            have hq7 := HQ.out.new hb7
                            have hwl : tri p + q < W.length := by
                              rw [HW.out, rowsTo_len]
                              have h3 := tri_mono (show p + 1 ≤ n by omega)
                              have h4 : tri (p + 1) = tri p + p := rfl
                              omega
                            obtain ⟨gw, c, hwv, _, _⟩ := own_form hq7.row (by omega)
                            have hcell : w7.cell? ⟨gw, tri p + q, none⟩ = some (.bool (UF.rt hs p == UF.rt hs q)) := by
                              have h5 := hq7.row
                              rw [hwv] at h5
                              rw [h5.cellAt (tri p + q) (by omega), List.getElem?_map, HW.out, rowsTo_get c5 c4]; rfl
                            have HQ7 := Lib.hid hq7
                            clear hq7 HQ J1 J2 hb7
                            subst hwv
                            have z0 : (0 : Int) ≤ (tri p : Int) + (q : Int) := by omega
                            have z1 : (tri p : Int) + (q : Int) < (W.length : Int) := by omega
                            obtain ⟨bb, hbb⟩ : ∃ bb, bb = (UF.rt hs p == UF.rt hs q) := ⟨_, rfl⟩
                            rw [← hbb] at hcell ⊢
                            clear hbb
                            go_wp2
                            go_roundw
                            case rel => exact ⟨q + 1, by omega, by go_num, by go_num, HQ7.out⟩
                            case measure => simp [intOf]; omega
                          · have HE2 : Hid (tri p + q = tri (p + 1)) := by unfold Hid; simp only [tri]; omega
                            go_wp2
                            go_roundw
                            case rel => exact ⟨p + 1, by omega, by rw [← HE2.out]; go_num, by go_num, HQ.out⟩
                            case measure => simp [intOf]; omega
                      · go_wp2
                        go_ret
                        obtain ⟨_, _, _, _, j4, _⟩ := HR.out
                        exact ⟨rfl, j4⟩
end Go.Proofs.Ytnoekneeefpleaa
