/-
  The references' rows of edges: NodesFault, Out. Condition: the edges lie in memory as 'EdsAt' says.
-/
import Derived.Test.YtlcnoihmhaaekaaGreatDoorBs17
namespace Go.Proofs.YtlcnoihmhaaekaaGreatDoor
open Go Go.RowKit Go.ChangeShapes Go.WideShapes
set_option linter.unusedVariables false

/-- What is wrong with a number of nodes. -/
def nodesF (n : Int) : Int := if n < 1 ∨ 60 < n then 1 else 0
set_option maxHeartbeats 400000 in
theorem nodesFault_any (w : World) (n : Int) : Calls Tryz.prog 7 #[.int .i64 n] w fun e w' => e = .returned (.int .i64 (nodesF n)) ∧ w = w' := by
  by_cases h1 : n < 1
  · have hp : Hid (1 = nodesF n) := by unfold Hid nodesF; rw [if_pos (.inl h1)]
    go_enter Tryz.func7, Tryz.ntmps7
    go_wp2
    go_ret
    exact ⟨congrArg (fun x => Ending.returned (.int .i64 x)) hp.out, rfl⟩
  by_cases h2 : 60 < n
  · have hp : Hid (1 = nodesF n) := by unfold Hid nodesF; rw [if_pos (.inr h2)]
    go_enter Tryz.func7, Tryz.ntmps7
    go_wp2
    go_ret
    exact ⟨congrArg (fun x => Ending.returned (.int .i64 x)) hp.out, rfl⟩
  · have hp : Hid (0 = nodesF n) := by unfold Hid nodesF; rw [if_neg (by omega)]
    go_enter Tryz.func7, Tryz.ntmps7
    go_wp2
    go_ret
    exact ⟨congrArg (fun x => Ending.returned (.int .i64 x)) hp.out, rfl⟩
theorem EdsAt.news {w : World} {A : Option Addr} {l : List AK.Ed} (h : EdsAt w A l) (k d : Nat) : ∀ ad, A = some ad → ∀ j u, (rowsOf edC ((l.drop k).take d))[j]? = some u → w.cell? ((ad.add (k * 2)).add j) = some u := by
  rintro ad rfl j u hj
  rcases h with h | ⟨b, off, he, hb, hc⟩
  · subst h; simp [rowsOf] at hj
  · injection he with he; subst he
    have := EdsAt.cells hc k d j u hj
    rwa [Addr.add_mid (j := k * 2)]
/-- What Out leaves: a new row without the k-th. -/
def OutPost (w : World) (l : List AK.Ed) (k : Nat) (e : Ending) (w' : World) : Prop :=
  ∃ A c, e = .returned (.slice A (l.eraseIdx k).length c) ∧ DRow w' (.slice A (l.eraseIdx k).length c) (l.eraseIdx k) ∧ Below w.heap.size w w' ∧ ∀ j, (Value.slice A (l.eraseIdx k).length c).ownBlock = some j → w.heap.size ≤ j
theorem out_end {w w6 w7 : World} {A6 A7 : Option Addr} {n6 c6 n7 c7 k : Nat} {l : List AK.Ed} {v : Value} (hv : v = .slice A7 n7 c7) (hn : n7 = (l.eraseIdx k).length) (ho : w7.ownsRow 0 87 2 (.slice A7 n7 c7) n7 (rowsOf edC (l.eraseIdx k)))
    (hc6 : Chg (fun j => (Value.slice none 0 0).ownBlock = some j) w w6) (hg6 : ∀ g, (Value.slice A6 n6 c6).ownBlock = some g → (Value.slice none 0 0).ownBlock = some g ∨ g = w.heap.size)
    (hc7 : Chg (fun j => (Value.slice A6 n6 c6).ownBlock = some j) w6 w7) (hg7 : ∀ g, (Value.slice A7 n7 c7).ownBlock = some g → (Value.slice A6 n6 c6).ownBlock = some g ∨ g = w6.heap.size) : OutPost w l k (.returned v) w7 := by
  subst hv; subst hn
  have h6 : ∀ g, (Value.slice A6 n6 c6).ownBlock = some g → w.heap.size ≤ g := fun g hg => by
    rcases hg6 g hg with h | h
    · simp [Value.ownBlock] at h
    · omega
  refine ⟨A7, c7, rfl, ho, (hc6.trans hc7 (fun i hi hS => absurd (h6 i hS) (by omega))).below (Nat.le_refl _) (fun k hk hS => by simp [Value.ownBlock] at hS), fun g hg => ?_⟩
  rcases hg7 g hg with h | h
  · exact h6 g h
  · have := hc6.size; omega
set_option maxHeartbeats 1000000 in
theorem rout_any (w : World) (A : Option Addr) (n c : Nat) (l : List AK.Ed) (k : Nat) (hl : l.length = n) (hn : n ≤ 100000) (hnc : n ≤ c) (hc : c ≤ maxLen) (hk : k < n) (h : EdsAt w A l) :
    Calls Tryz.prog 14 #[.slice A n c, .int .i64 k] w (OutPost w l k) := by
  have hA : ∃ ad, A = some ad := by
    rcases h with h0 | ⟨b, off, rfl, _⟩
    · rw [h0] at hl; simp at hl; omega
    · exact ⟨_, rfl⟩
  obtain ⟨ad, rfl⟩ := hA
  unfold maxLen at hc
  have H := Lib.hid h
  have HL := Lib.hid hl
  have hT : (rowsOf edC (l.take k)).length = k * 2 := rowsOf_len (f := edC) (fun x _ => edC_len x) |>.trans (by rw [List.length_take, hl, Nat.min_eq_left (by omega)])
  have hD : (rowsOf edC (l.drop (k + 1))).length = (n - (k + 1)) * 2 := rowsOf_len (f := edC) (fun x _ => edC_len x) |>.trans (by rw [List.length_drop, hl])
  have he : rowsOf edC (l.eraseIdx k) = rowsOf edC (l.take k) ++ rowsOf edC (l.drop (k + 1)) := by rw [List.eraseIdx_eq_take_drop_succ, rowsOf_app]
  have hel : (l.eraseIdx k).length = n - 1 := by rw [List.length_eraseIdx, hl, if_pos hk]
  have HT := Lib.hid hT
  have HD := Lib.hid hD
  have HE := Lib.hid he
  have HEL := Lib.hid hel
  clear h hl hT hD he hel
  by_cases hck : c = k + 1
  · have hnk : n = k + 1 := by omega
    subst hck
    subst hnk
    go_enter Tryz.func14, Tryz.ntmps14
    go_upto_region 3 with (first
      | (at_builtin; refine wpList_append_rows _ rfl (.tmp 6) (.tmp 9) 31 rfl 87 _ 2 16 Tryz.underlying31 infoEdge rfl (by decide) _ 0 [] rfl (World.ownsRow_nil _ _ _ _) _ _ _ (rowsOf edC (l.take k)) rfl HT.out (fun h => by cases h) (fun ad h j u hj => by have := H.out.news 0 k ad h j u (by rwa [List.drop_zero]); simpa [Addr.add] using this) edC_one ⟨by omega, by omega⟩ ?_; intro A6 c6 w6 ho6 hc6 hg6; simp only [Nat.zero_add, List.nil_append] at ho6 hg6; have HO6 := Lib.hid ho6; have HC6 := Lib.hid hc6; have HG6 := Lib.hid hg6; clear ho6 hc6 hg6))
    go_wp2_with (first
      | (at_builtin; refine wpList_append_rows _ rfl (.tmp 11) (.tmp 15) 31 rfl 87 _ 2 16 Tryz.underlying31 infoEdge rfl (by decide) _ _ _ rfl HO6.out _ 0 _ [] rfl rfl (fun h => by cases h) (fun ad' h j u hj => by simp at hj) (fun u hu => by simp at hu) ⟨by omega, by omega⟩ ?_; intro A7 c7 w7 ho7 hc7 hg7; have HO7 := Lib.hid ho7; have HC7 := Lib.hid hc7; have HG7 := Lib.hid hg7; clear ho7 hc7 hg7))
    go_ret
    exact out_end rfl (by rw [HEL.out]; rfl) (by rw [HE.out, List.drop_eq_nil_of_le (by rw [HL.out]; exact Nat.le_refl _)]; exact HO7.out) HC6.out HG6.out HC7.out HG7.out
  · go_enter Tryz.func14, Tryz.ntmps14
    go_upto_region 3 with (first
      | (at_builtin; refine wpList_append_rows _ rfl (.tmp 6) (.tmp 9) 31 rfl 87 _ 2 16 Tryz.underlying31 infoEdge rfl (by decide) _ 0 [] rfl (World.ownsRow_nil _ _ _ _) _ _ _ (rowsOf edC (l.take k)) rfl HT.out (fun h => by cases h) (fun ad h j u hj => by have := H.out.news 0 k ad h j u (by rwa [List.drop_zero]); simpa [Addr.add] using this) edC_one ⟨by omega, by omega⟩ ?_; intro A6 c6 w6 ho6 hc6 hg6; simp only [Nat.zero_add, List.nil_append] at ho6 hg6; have HO6 := Lib.hid ho6; have HC6 := Lib.hid hc6; have HG6 := Lib.hid hg6; clear ho6 hc6 hg6))
    have H6 : Hid (EdsAt w6 (some ad) l) := H.out.chg HC6.out (fun _ _ _ h => by have h2 : (Value.slice none 0 0).ownBlock = some _ := h; simp [Value.ownBlock] at h2)
    go_wp2_with (first
      | (at_builtin; refine wpList_append_rows _ rfl (.tmp 11) (.tmp 15) 31 rfl 87 _ 2 16 Tryz.underlying31 infoEdge rfl (by decide) _ _ _ rfl HO6.out _ _ _ (rowsOf edC (l.drop (k + 1))) rfl HD.out (fun h => by cases h) (fun ad' h j u hj => by have := H6.out.news (k + 1) l.length ad rfl j u (by rwa [List.take_of_length_le (by simp)]); injection h with h; rw [← h]; exact this) edC_one ⟨by omega, by omega⟩ ?_; intro A7 c7 w7 ho7 hc7 hg7; have HO7 := Lib.hid ho7; have HC7 := Lib.hid hc7; have HG7 := Lib.hid hg7; clear ho7 hc7 hg7))
    go_ret
    exact out_end rfl (by rw [HEL.out]; omega) (by rw [HE.out]; exact HO7.out) HC6.out HG6.out HC7.out HG7.out
end Go.Proofs.YtlcnoihmhaaekaaGreatDoor
