/-
  Plain: forests as relations without a ring; ways around a tree as lists of marks and steps: rotated, linked, cut. No program here; no conditions.
-/
import Derived.Test.YtckcbfnffmohgaaPn
namespace Go.Proofs.Ytckcbfnffmohgaa
set_option linter.unusedVariables false

namespace TR
open DF

/-- No ring: without an edge there is no way between its nodes. -/
def Fs (E : Nat → Nat → Prop) : Prop := ∀ u v, E u v → ¬ Cn (Mn E u v) u v
/-- One edge more. -/
def Ad (E : Nat → Nat → Prop) (a b u v : Nat) : Prop := E u v ∨ (u = a ∧ v = b) ∨ (u = b ∧ v = a)
theorem cn_cut' {E F : Nat → Nat → Prop} {a b : Nat} (hE : ∀ p q, E p q → F p q ∨ (p = a ∧ q = b) ∨ (p = b ∧ q = a)) {p q : Nat} (c : Cn E p q) : Cn F p q ∨ (Cn F p a ∧ Cn F q b) ∨ (Cn F p b ∧ Cn F q a) := by
  induction c with
  | refl x => exact .inl (.refl _)
  | edge h =>
    rcases hE _ _ h with h | ⟨rfl, rfl⟩ | ⟨rfl, rfl⟩
    · exact .inl (.edge h)
    · exact .inr (.inl ⟨.refl _, .refl _⟩)
    · exact .inr (.inr ⟨.refl _, .refl _⟩)
  | symm _ ih =>
    rcases ih with h | ⟨h, k⟩ | ⟨h, k⟩
    · exact .inl h.symm
    · exact .inr (.inr ⟨k, h⟩)
    · exact .inr (.inl ⟨k, h⟩)
  | trans _ _ ih1 ih2 =>
    rcases ih1 with h | ⟨h, k⟩ | ⟨h, k⟩ <;> rcases ih2 with h' | ⟨h', k'⟩ | ⟨h', k'⟩
    · exact .inl (h.trans h')
    · exact .inr (.inl ⟨h.trans h', k'⟩)
    · exact .inr (.inr ⟨h.trans h', k'⟩)
    · exact .inr (.inl ⟨h, h'.symm.trans k⟩)
    · exact .inr (.inl ⟨h, k'⟩)
    · exact .inl (h.trans k'.symm)
    · exact .inr (.inr ⟨h, h'.symm.trans k⟩)
    · exact .inl (h.trans k'.symm)
    · exact .inr (.inr ⟨h, k'⟩)
theorem Fs.ad {E : Nat → Nat → Prop} (h : Fs E) {a b : Nat} (hn : ¬ Cn E a b) : Fs (Ad E a b) := by
  intro u v huv c
  have hab : a ≠ b := fun e => hn (e ▸ .refl _)
  rcases huv with huv | ⟨rfl, rfl⟩ | ⟨rfl, rfl⟩
  · have hE : ∀ p q, Mn (Ad E a b) u v p q → Mn E u v p q ∨ (p = a ∧ q = b) ∨ (p = b ∧ q = a) := by
      rintro p q ⟨h1 | h1, h2⟩
      · exact .inl ⟨h1, h2⟩
      · exact .inr h1
    have up : ∀ {x y}, Cn (Mn E u v) x y → Cn E x y := fun c => c.mono fun _ _ e => e.1
    rcases cn_cut' hE c with c | ⟨c, d⟩ | ⟨c, d⟩
    · exact h u v huv c
    · exact hn ((up c).symm.trans ((Cn.edge huv).trans (up d)))
    · exact hn ((up d).symm.trans ((Cn.edge huv).symm.trans (up c)))
  · refine hn (c.mono ?_)
    rintro p q ⟨h1 | h1 | h1, h2, h3⟩
    · exact h1
    · exact absurd h1 h2
    · exact absurd h1 h3
  · refine hn (Cn.symm (c.mono ?_))
    rintro p q ⟨h1 | h1 | h1, h2, h3⟩
    · exact h1
    · exact absurd h1 h3
    · exact absurd h1 h2
theorem Fs.sub {E F : Nat → Nat → Prop} (h : Fs E) (hs : ∀ u v, F u v → E u v) : Fs F := fun u v huv c =>
  h u v (hs _ _ huv) (c.mono fun p q e => ⟨hs _ _ e.1, e.2⟩)

/-- A step's number. -/
def st (a b : Nat) : Int := ((a : Int) + 1) * 60 + b
theorem st_inj {a b c d : Nat} (hb : b < 60) (hd : d < 60) (h : st a b = st c d) : a = c ∧ b = d := by unfold st at h; omega
theorem st_ge (a b : Nat) : 60 ≤ st a b := by unfold st; omega

/-- A walk by marks and steps from a node to a node. -/
inductive Go (E : Nat → Nat → Prop) : Nat → List Int → Nat → Prop
  | nil (v) : Go E v [] v
  | mark {v u l} : v < 60 → Go E v l u → Go E v ((v : Int) :: l) u
  | step {v c u l} : E v c → c < 60 → Go E c l u → Go E v (st v c :: l) u
section
variable {E F : Nat → Nat → Prop}
theorem Go.mono {v u : Nat} {l : List Int} (h : Go E v l u) (hs : ∀ x y, st x y ∈ l → E x y → F x y) : Go F v l u := by
  induction h with
  | nil v => exact .nil v
  | mark h1 _ ih => exact .mark h1 (ih fun x y hm => hs x y (List.mem_cons_of_mem _ hm))
  | step h1 h2 _ ih => exact .step (hs _ _ (List.mem_cons_self ..) h1) h2 (ih fun x y hm => hs x y (List.mem_cons_of_mem _ hm))
theorem Go.app {v u w : Nat} {l m : List Int} (h : Go E v l u) (k : Go E u m w) : Go E v (l ++ m) w := by
  induction h with
  | nil v => exact k
  | mark h1 _ ih => exact .mark h1 (ih k)
  | step h1 h2 _ ih => exact .step h1 h2 (ih k)
theorem Go.split {v w : Nat} {m : List Int} : ∀ {l : List Int}, Go E v (l ++ m) w → ∃ u, Go E v l u ∧ Go E u m w := by
  intro l
  induction l generalizing v with
  | nil => intro h; exact ⟨v, .nil v, h⟩
  | cons x l ih =>
    intro h
    cases h with
    | mark h1 h2 => obtain ⟨u, p, q⟩ := ih h2; exact ⟨u, .mark h1 p, q⟩
    | step h1 h2 h3 => obtain ⟨u, p, q⟩ := ih h3; exact ⟨u, .step h1 h2 p, q⟩
theorem Go.end_ {v u : Nat} {l : List Int} (h : Go E v l u) : Cn E v u := by
  induction h with
  | nil v => exact .refl v
  | mark _ _ ih => exact ih
  | step h1 _ _ ih => exact (Cn.edge h1).trans ih
theorem Go.marks {v u x : Nat} {l : List Int} (h : Go E v l u) (hx : (x : Int) ∈ l) (h60 : x < 60) : Cn E v x := by
  induction h with
  | nil v => simp at hx
  | mark _ _ ih =>
    rcases List.mem_cons.1 hx with e | hx
    · have : x = _ := Int.ofNat.inj e; subst this; exact .refl _
    · exact ih hx
  | @step v c u l h1 _ _ ih =>
    rcases List.mem_cons.1 hx with e | hx
    · have := st_ge v c; omega
    · exact (Cn.edge h1).trans (ih hx)
theorem Go.steps {v u x y : Nat} {l : List Int} (h : Go E v l u) (hx : st x y ∈ l) (h60 : y < 60) : E x y ∧ Cn E v x := by
  induction h with
  | nil v => simp at hx
  | mark h1 _ ih =>
    rcases List.mem_cons.1 hx with e | hx
    · have := st_ge x y; omega
    · exact ih hx
  | step h1 h2 _ ih =>
    rcases List.mem_cons.1 hx with e | hx
    · obtain ⟨rfl, rfl⟩ := st_inj h60 h2 e; exact ⟨h1, .refl _⟩
    · obtain ⟨p, q⟩ := ih hx; exact ⟨p, (Cn.edge h1).trans q⟩
theorem Go.items {v u : Nat} {l : List Int} (h : Go E v l u) {z : Int} (hz : z ∈ l) : (∃ x : Nat, x < 60 ∧ z = x) ∨ ∃ x y : Nat, y < 60 ∧ E x y ∧ z = st x y := by
  induction h with
  | nil v => simp at hz
  | mark h1 _ ih =>
    rcases List.mem_cons.1 hz with e | hz
    · exact .inl ⟨_, h1, e⟩
    · exact ih hz
  | step h1 h2 _ ih =>
    rcases List.mem_cons.1 hz with e | hz
    · exact .inr ⟨_, _, h2, h1, e⟩
    · exact ih hz
theorem Go.at_mark {v u x : Nat} {l : List Int} (h60 : x < 60) (h : Go E v ((x : Int) :: l) u) : v = x := by
  generalize hz : (x : Int) :: l = z at h
  cases h with
  | nil => cases hz
  | mark _ _ => have := (List.cons.inj hz).1; omega
  | @step _ c _ _ _ _ _ => have := (List.cons.inj hz).1; have := st_ge v c; omega
theorem Go.at_step {v u x y : Nat} {l : List Int} (h60 : y < 60) (h : Go E v (st x y :: l) u) : v = x ∧ Go E y l u := by
  generalize hz : st x y :: l = z at h
  cases h with
  | nil => cases hz
  | mark _ _ => have := (List.cons.inj hz).1; have := st_ge x y; omega
  | step h1 h2 h3 => obtain ⟨e1, e2⟩ := List.cons.inj hz; obtain ⟨rfl, rfl⟩ := st_inj h60 h2 e1; subst e2; exact ⟨rfl, h3⟩

/-- A way around the tree in which a node is. -/
structure Way (E : Nat → Nat → Prop) (r : Nat) (l : List Int) : Prop where
  go : ∃ v, Go E v l v
  mrk : ∀ x : Nat, x < 60 → ((x : Int) ∈ l ↔ Cn E r x)
  st : ∀ x y : Nat, E x y → Cn E r x → st x y ∈ l
  nd : l.Nodup

theorem Way.re {r s : Nat} {l : List Int} (h : Way E r l) (c : Cn E r s) : Way E s l :=
  ⟨h.go, fun x hx => (h.mrk x hx).trans ⟨fun d => c.symm.trans d, fun d => c.trans d⟩, fun x y e d => h.st x y e (c.trans d), h.nd⟩
/-- The walk's own nodes are the tree's. -/
theorem Way.at {r v : Nat} {l : List Int} (h : Way E r l) (hr : r < 60) (k : Go E v l v) : Cn E r v :=
  (k.marks ((h.mrk r hr).2 (.refl _)) hr).symm
theorem Way.one {r : Nat} (hr : r < 60) (hE : ∀ x, ¬ E r x) (hs : ∀ x y, E x y → E y x) : Way E r [(r : Int)] := by
  have alone : ∀ x, Cn E r x → x = r := fun x c => by
    have := c.keeps (S := fun z => z = r) fun u v e => ⟨fun h => absurd e (h ▸ hE v), fun h => absurd (hs _ _ e) (h ▸ hE u)⟩
    exact this.1 rfl
  refine ⟨⟨r, .mark hr (.nil r)⟩, fun x hx => ⟨fun h => ?_, fun c => ?_⟩, fun x y e c => ?_, by simp⟩
  · have h' : (x : Int) = (r : Int) := by simpa using h
    have : x = r := by omega
    subst this; exact .refl _
  · rw [alone x c]; simp
  · rw [alone x c] at e; exact absurd e (hE y)
theorem Way.rot {r x : Nat} {l p q : List Int} (h : Way E r l) (hl : l = p ++ (x : Int) :: q) (hx : x < 60) : Go E x ((x : Int) :: q ++ p) x ∧ Way E r ((x : Int) :: q ++ p) := by
  obtain ⟨v, k⟩ := h.go
  subst hl
  obtain ⟨u, k1, k2⟩ := k.split
  obtain rfl := k2.at_mark hx
  have hp : ((u : Int) :: q ++ p).Perm (p ++ (u : Int) :: q) := List.perm_append_comm
  refine ⟨k2.app k1, ⟨⟨_, k2.app k1⟩, fun y hy => ?_, fun a b e c => ?_, ?_⟩⟩
  · rw [hp.mem_iff]; exact h.mrk y hy
  · rw [hp.mem_iff]; exact h.st a b e c
  · exact hp.nodup_iff.2 h.nd
/-- Other trees are as they were. -/
theorem Way.other {r : Nat} {l : List Int} (h : Way E r l) (hr : r < 60) (hEF : ∀ x y, Cn E r x → (E x y ↔ F x y)) (hc : ∀ x, Cn E r x ↔ Cn F r x) : Way F r l := by
  obtain ⟨v, k⟩ := h.go
  have cv := h.at hr k
  refine ⟨⟨v, ?_⟩, fun x hx => (h.mrk x hx).trans (hc x), fun x y e c => h.st x y ((hEF x y ((hc x).2 c)).2 e) ((hc x).2 c), h.nd⟩
  · have : ∀ {a b : Nat} {l : List Int}, Go E a l b → Cn E r a → Go F a l b := by
      intro a b l k
      induction k with
      | nil v => intro _; exact .nil v
      | mark h1 _ ih => intro c; exact .mark h1 (ih c)
      | step h1 h2 _ ih => intro c; exact .step ((hEF _ _ c).1 h1) h2 (ih (c.trans (.edge h1)))
    exact this k cv

/-- Two trees linked. -/
theorem Way.link {a b : Nat} {x y : List Int} (hs : ∀ u v, E u v → E v u) (hin : ∀ u v, E u v → v < 60) (ha : a < 60) (hb : b < 60) (hn : ¬ Cn E a b) (hx : Way E a x) (hy : Way E b y) (kx : Go E a x a) (ky : Go E b y b) :
    Way (Ad E a b) a (x ++ (TR.st a b :: y) ++ [TR.st b a]) := by
  have up : ∀ {p q}, Cn E p q → Cn (Ad E a b) p q := fun c => c.mono fun _ _ e => .inl e
  have hab : Cn (Ad E a b) a b := .edge (.inr (.inl ⟨rfl, rfl⟩))
  have con : ∀ z, Cn (Ad E a b) a z ↔ Cn E a z ∨ Cn E b z := fun z => by
    constructor
    · intro c
      rcases cn_cut' (F := E) (fun p q h => h) c with c | ⟨c, d⟩ | ⟨c, d⟩
      · exact .inl c
      · exact .inr d.symm
      · exact absurd c hn
    · rintro (c | c)
      · exact up c
      · exact hab.trans (up c)
  have hsx : ∀ u v : Nat, v < 60 → TR.st u v ∈ x → E u v ∧ Cn E a u := fun u v hv h => kx.steps h hv
  have hsy : ∀ u v : Nat, v < 60 → TR.st u v ∈ y → E u v ∧ Cn E b u := fun u v hv h => ky.steps h hv
  have nab : ¬ E a b := fun e => hn (.edge e)
  have nba : ¬ E b a := fun e => hn (Cn.edge e).symm
  refine ⟨⟨a, ?_⟩, fun z hz => ?_, fun u v e c => ?_, ?_⟩
  · have k1 : Go (Ad E a b) a x a := kx.mono fun _ _ _ e => .inl e
    have k2 : Go (Ad E a b) b y b := ky.mono fun _ _ _ e => .inl e
    exact (k1.app (.step (.inr (.inl ⟨rfl, rfl⟩)) hb k2)).app (.step (.inr (.inr ⟨rfl, rfl⟩)) ha (.nil a))
  · rw [con z, ← hx.mrk z hz, ← hy.mrk z hz]
    have h1 := st_ge a b
    have h2 := st_ge b a
    simp only [List.mem_append, List.mem_cons, List.not_mem_nil, or_false]
    constructor
    · rintro ((h | h | h) | h)
      · exact .inl h
      · omega
      · exact .inr h
      · omega
    · rintro (h | h)
      · exact .inl (.inl h)
      · exact .inl (.inr (.inr h))
  · simp only [List.mem_append, List.mem_cons, List.not_mem_nil, or_false]
    rcases e with e | ⟨rfl, rfl⟩ | ⟨rfl, rfl⟩
    · rcases (con u).1 c with c | c
      · exact .inl (.inl (hx.st u v e c))
      · exact .inl (.inr (.inr (hy.st u v e c)))
    · exact .inl (.inr (.inl rfl))
    · exact .inr rfl
  · have dis : ∀ z, z ∈ x → z ∈ y → False := by
      intro z h1 h2
      rcases kx.items h1 with ⟨u, hu, rfl⟩ | ⟨u, v, hv, _, rfl⟩
      · exact hn (((hx.mrk u hu).1 h1).trans ((hy.mrk u hu).1 h2).symm)
      · exact hn ((hsx u v hv h1).2.trans (hsy u v hv h2).2.symm)
    have n1 : TR.st a b ∉ x := fun h => nab (hsx a b hb h).1
    have n2 : TR.st a b ∉ y := fun h => nab (hsy a b hb h).1
    have n3 : TR.st b a ∉ x := fun h => nba (hsx b a ha h).1
    have n4 : TR.st b a ∉ y := fun h => nba (hsy b a ha h).1
    have n5 : TR.st b a ≠ TR.st a b := fun h => by
      have := (st_inj ha hb h).1
      exact hn (this ▸ .refl _)
    rw [List.nodup_append, List.nodup_append, List.nodup_cons]
    refine ⟨⟨hx.nd, ⟨n2, hy.nd⟩, ?_⟩, by simp, ?_⟩
    · intro p hp q hq e
      subst e
      rcases List.mem_cons.1 hq with rfl | hq
      · exact n1 hp
      · exact dis p hp hq
    · intro p hp q hq e
      subst e
      have : p = TR.st b a := by simpa using hq
      subst this
      rcases List.mem_append.1 hp with h | h
      · exact n3 h
      · rcases List.mem_cons.1 h with h | h
        · exact n5 h
        · exact n4 h

/-- An edge cut: a way around each of both. -/
theorem Way.cut {u v : Nat} {low mid high : List Int} (hs : ∀ x y, E x y → E y x) (hin : ∀ x y, E x y → y < 60) (hu : u < 60) (hv : v < 60) (huv : E u v) (hn : ¬ Cn (Mn E u v) u v) (h : Way E u (low ++ TR.st u v :: mid ++ TR.st v u :: high)) :
    Way (Mn E u v) v mid ∧ Way (Mn E u v) u (low ++ high) := by
  have hne : u ≠ v := fun e => hn (e ▸ .refl _)
  obtain ⟨w, k⟩ := h.go
  obtain ⟨p, k12, k3⟩ := k.split
  obtain ⟨e3, k3'⟩ := k3.at_step hu
  obtain ⟨q, k1, k2⟩ := k12.split
  obtain ⟨e2, k2'⟩ := k2.at_step hv
  clear k3 k2
  subst e3
  subst e2
  have nd := h.nd
  rw [List.nodup_append, List.nodup_append, List.nodup_cons, List.nodup_cons] at nd
  obtain ⟨⟨d1, ⟨m1, d2⟩, m2⟩, ⟨m3, d3⟩, m4⟩ := nd
  have a1 : TR.st q p ∉ low := fun hh => m2 _ hh _ (List.mem_cons_self ..) rfl
  have a2 : TR.st q p ∉ mid := m1
  have a3 : TR.st q p ∉ high := fun hh => m4 _ (List.mem_append.2 (.inr (List.mem_cons_self ..))) _ (List.mem_cons_of_mem _ hh) rfl
  have b1 : TR.st p q ∉ low := fun hh => m4 _ (List.mem_append.2 (.inl hh)) _ (List.mem_cons_self ..) rfl
  have b2 : TR.st p q ∉ mid := fun hh => m4 _ (List.mem_append.2 (.inr (List.mem_cons_of_mem _ hh))) _ (List.mem_cons_self ..) rfl
  have b3 : TR.st p q ∉ high := m3
  have keep : ∀ {l : List Int}, TR.st q p ∉ l → TR.st p q ∉ l → ∀ x y, TR.st x y ∈ l → E x y → Mn E q p x y := by
    intro l h1 h2 x y hm e
    refine ⟨e, ?_, ?_⟩
    · rintro ⟨rfl, rfl⟩; exact h1 hm
    · rintro ⟨rfl, rfl⟩; exact h2 hm
  have g1 : Go (Mn E q p) w low q := k1.mono (keep a1 b1)
  have g2 : Go (Mn E q p) p mid p := k2'.mono (keep a2 b2)
  have g3 : Go (Mn E q p) q high w := k3'.mono (keep a3 b3)
  have sub : ∀ {x y}, Cn (Mn E q p) x y → Cn E x y := fun c => c.mono fun _ _ e => e.1
  have mem : ∀ z, z ∈ low ++ TR.st q p :: mid ++ TR.st p q :: high ↔ z ∈ low ∨ z = TR.st q p ∨ z ∈ mid ∨ z = TR.st p q ∨ z ∈ high := fun z => by
    simp only [List.mem_append, List.mem_cons]
    constructor
    · rintro ((h | h | h) | h | h) <;> simp [h]
    · rintro (h | h | h | h | h) <;> simp [h]
  have outm : ∀ x : Nat, x < 60 → (x : Int) ∈ low ++ high → Cn (Mn E q p) q x := fun x hx hm => by
    rcases List.mem_append.1 hm with hm | hm
    · exact g1.end_.symm.trans (g1.marks hm hx)
    · exact g3.marks hm hx
  have outs : ∀ x y : Nat, y < 60 → TR.st x y ∈ low ++ high → Cn (Mn E q p) q x := fun x y hx hm => by
    rcases List.mem_append.1 hm with hm | hm
    · exact g1.end_.symm.trans (g1.steps hm hx).2
    · exact (g3.steps hm hx).2
  have hqp : Cn E q p := .edge huv
  refine ⟨⟨⟨p, g2⟩, fun x hx => ⟨fun hm => g2.marks hm hx, fun c => ?_⟩, fun x y e c => ?_, d2⟩, ⟨⟨w, g1.app g3⟩, fun x hx => ⟨outm x hx, fun c => ?_⟩, fun x y e c => ?_, ?_⟩⟩
  · have := (h.mrk x hx).2 (hqp.trans (sub c))
    have s1 := st_ge q p
    have s2 := st_ge p q
    rcases (mem _).1 this with hm | hm | hm | hm | hm
    · exact absurd ((outm x hx (List.mem_append.2 (.inl hm))).trans c.symm) hn
    · omega
    · exact hm
    · omega
    · exact absurd ((outm x hx (List.mem_append.2 (.inr hm))).trans c.symm) hn
  · have hy := hin _ _ e.1
    have := h.st x y e.1 (hqp.trans (sub c))
    rcases (mem _).1 this with hm | hm | hm | hm | hm
    · exact absurd ((outs x y hy (List.mem_append.2 (.inl hm))).trans c.symm) hn
    · exact absurd (st_inj hy hv hm) e.2.1
    · exact hm
    · exact absurd (st_inj hy hu hm) e.2.2
    · exact absurd ((outs x y hy (List.mem_append.2 (.inr hm))).trans c.symm) hn
  · have := (h.mrk x hx).2 (sub c)
    have s1 := st_ge q p
    have s2 := st_ge p q
    rcases (mem _).1 this with hm | hm | hm | hm | hm
    · exact List.mem_append.2 (.inl hm)
    · omega
    · exact absurd (c.trans (g2.marks hm hx).symm) hn
    · omega
    · exact List.mem_append.2 (.inr hm)
  · have hy := hin _ _ e.1
    have := h.st x y e.1 (sub c)
    rcases (mem _).1 this with hm | hm | hm | hm | hm
    · exact List.mem_append.2 (.inl hm)
    · exact absurd (st_inj hy hv hm) e.2.1
    · exact absurd (c.trans (g2.steps hm hy).2.symm) hn
    · exact absurd (st_inj hy hu hm) e.2.2
    · exact List.mem_append.2 (.inr hm)
  · rw [List.nodup_append]
    refine ⟨d1, d3, fun x hx y hy e => ?_⟩
    exact m4 x (List.mem_append.2 (.inl hx)) y (List.mem_cons_of_mem _ hy) e
end
end TR
end Go.Proofs.Ytckcbfnffmohgaa
