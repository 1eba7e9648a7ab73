/-
  A small separation logic over the model's blocks: heaps in part, items, and what a call may change. No program in sight.
-/
import Derived.Calls
import Derived.Conc.LoneSelect
import Derived.Conc.LoneSelectN
import Derived.Deep.Quiet
import Derived.Laws.AppendOwn
import Derived.Laws.World
import Derived.Below
import Derived.KernelRfl
set_option linter.unusedSimpArgs false
set_option linter.unusedVariables false
namespace Go.Sx
open Go
abbrev PHeap := Nat → Option Obj
def PHeap.le (h h' : PHeap) : Prop := ∀ b o, h b = some o → h' b = some o
def PHeap.disj (h h' : PHeap) : Prop := ∀ b, h b = none ∨ h' b = none
def PHeap.un (h h' : PHeap) : PHeap := fun b => match h b with | some o => some o | none => h' b
def ph (w : World) : PHeap := fun b => w.heap[b]?
abbrev HProp := PHeap → Prop
def own (H : PHeap) : HProp := fun h => h = H
def single (b : Nat) (o : Obj) : PHeap := fun k => if k = b then some o else none
abbrev pts (b : Nat) (o : Obj) : HProp := own (single b o)
def sepL : List HProp → PHeap → Prop
  | [], _ => True
  | A :: R, h => ∃ h1 h2, A h1 ∧ sepL R h2 ∧ PHeap.disj h1 h2 ∧ PHeap.le h1 h ∧ PHeap.le h2 h
theorem PHeap.le_refl (h : PHeap) : PHeap.le h h := fun _ _ x => x
theorem PHeap.le_trans {a b c : PHeap} (h : PHeap.le a b) (k : PHeap.le b c) : PHeap.le a c := fun x o e => k _ _ (h x o e)
theorem PHeap.disj_symm {a b : PHeap} (h : PHeap.disj a b) : PHeap.disj b a := fun x => (h x).symm
theorem PHeap.disj_le {a b c : PHeap} (h : PHeap.disj a b) (k : PHeap.le c b) : PHeap.disj a c := fun x => by
  rcases h x with e | e
  · exact .inl e
  · refine .inr ?_
    cases hc : c x with
    | none => rfl
    | some o => rw [k _ _ hc] at e; cases e
theorem PHeap.le_un_left (a b : PHeap) : PHeap.le a (PHeap.un a b) := fun x o e => by simp [PHeap.un, e]
theorem PHeap.le_un_right {a b : PHeap} (h : PHeap.disj a b) : PHeap.le b (PHeap.un a b) := fun x o e => by
  rcases h x with e' | e'
  · simp [PHeap.un, e', e]
  · rw [e] at e'; cases e'
theorem PHeap.un_le {a b c : PHeap} (h : PHeap.le a c) (k : PHeap.le b c) : PHeap.le (PHeap.un a b) c := fun x o e => by
  unfold PHeap.un at e
  split at e
  · rename_i o' ho; cases e; exact h _ _ ho
  · exact k _ _ e
theorem PHeap.disj_un {a b c : PHeap} (h : PHeap.disj a b) (k : PHeap.disj a c) : PHeap.disj a (PHeap.un b c) := fun x => by
  rcases h x with e | e
  · exact .inl e
  · rcases k x with e' | e'
    · exact .inl e'
    · exact .inr (by simp [PHeap.un, e, e'])
theorem PHeap.un_none {a b : PHeap} {x : Nat} (h : PHeap.un a b x ≠ none) : a x ≠ none ∨ b x ≠ none := by
  unfold PHeap.un at h
  split at h
  · rename_i o ho; exact .inl (by simp [ho])
  · exact .inr h
theorem PHeap.le_dom {a b : PHeap} (h : PHeap.le a b) {x : Nat} (hx : a x ≠ none) : b x ≠ none := by
  cases e : a x with
  | none => exact absurd e hx
  | some o => simp [h _ _ e]
theorem sepL_mono {M : List HProp} {h h' : PHeap} (k : PHeap.le h h') (s : sepL M h) : sepL M h' := by
  cases M with
  | nil => trivial
  | cons A R => obtain ⟨h1, h2, a, r, d, l1, l2⟩ := s; exact ⟨h1, h2, a, r, d, PHeap.le_trans l1 k, PHeap.le_trans l2 k⟩
theorem sepL_append : ∀ {A B : List HProp} {h : PHeap}, sepL (A ++ B) h → ∃ h1 h2, sepL A h1 ∧ sepL B h2 ∧ PHeap.disj h1 h2 ∧ PHeap.le h1 h ∧ PHeap.le h2 h
  | [], B, h, s => ⟨fun _ => none, h, trivial, s, fun _ => .inl rfl, (fun _ _ e => by cases e), PHeap.le_refl _⟩
  | X :: A, B, h, s => by
    obtain ⟨hx, hr, x, r, d, l1, l2⟩ := s
    obtain ⟨ha, hb, a, b, d', la, lb⟩ := sepL_append r
    refine ⟨PHeap.un hx ha, hb, ⟨hx, ha, x, a, PHeap.disj_le d la, PHeap.le_un_left _ _, PHeap.le_un_right (PHeap.disj_le d la)⟩, b, ?_, PHeap.un_le l1 (PHeap.le_trans la l2), PHeap.le_trans lb l2⟩
    exact PHeap.disj_symm (PHeap.disj_un (PHeap.disj_symm (PHeap.disj_le d lb)) (PHeap.disj_symm d'))
theorem sepL_join : ∀ {A B : List HProp} {h1 h2 h : PHeap}, sepL A h1 → sepL B h2 → PHeap.disj h1 h2 → PHeap.le h1 h → PHeap.le h2 h → sepL (A ++ B) h
  | [], _, _, _, _, _, b, _, _, l2 => sepL_mono l2 b
  | X :: A, B, h1, h2, h, s, b, d, l1, l2 => by
    obtain ⟨hx, hr, x, r, d', k1, k2⟩ := s
    have d1 : PHeap.disj hr h2 := PHeap.disj_symm (PHeap.disj_le (PHeap.disj_symm d) k2)
    have d2 : PHeap.disj hx h2 := PHeap.disj_symm (PHeap.disj_le (PHeap.disj_symm d) k1)
    refine ⟨hx, PHeap.un hr h2, x, sepL_join r b d1 (PHeap.le_un_left _ _) (PHeap.le_un_right d1), PHeap.disj_un d' d2, PHeap.le_trans k1 l1, PHeap.un_le (PHeap.le_trans k2 l1) l2⟩
inductive Pick : List HProp → HProp → List HProp → Prop
  | head {A : HProp} {M : List HProp} : Pick (A :: M) A M
  | tail {X A : HProp} {M R : List HProp} : Pick M A R → Pick (X :: M) A (X :: R)
theorem Pick.sep {M R : List HProp} {A : HProp} (p : Pick M A R) : ∀ {h : PHeap}, sepL M h → sepL (A :: R) h := by
  induction p with
  | head => exact fun s => s
  | tail _ ih =>
    intro h s
    obtain ⟨hx, hm, x, m, d, l1, l2⟩ := s
    obtain ⟨ha, hr, a, r, d', k1, k2⟩ := ih m
    have d1 : PHeap.disj hx hr := PHeap.disj_le d k2
    exact ⟨ha, PHeap.un hx hr, a, ⟨hx, hr, x, r, d1, PHeap.le_un_left _ _, PHeap.le_un_right d1⟩,
      PHeap.disj_un (PHeap.disj_symm (PHeap.disj_le d k1)) d', PHeap.le_trans k1 l2, PHeap.un_le l1 (PHeap.le_trans k2 l2)⟩
inductive Picks : List HProp → List HProp → List HProp → Prop
  | nil {M : List HProp} : Picks M [] M
  | cons {M R R' A : List HProp} {X : HProp} : Pick M X R → Picks R A R' → Picks M (X :: A) R'
theorem Picks.sep {M A R : List HProp} (p : Picks M A R) : ∀ {h : PHeap}, sepL M h → sepL (A ++ R) h := by
  induction p with
  | nil => exact fun s => s
  | cons p _ ih =>
    intro h s
    obtain ⟨hx, hm, x, m, d, l1, l2⟩ := p.sep s
    exact ⟨hx, hm, x, ih m, d, l1, l2⟩
def Ent (M N : List HProp) : Prop := ∀ h, sepL M h → sepL N h
theorem Ent.refl (M : List HProp) : Ent M M := fun _ s => s
theorem Ent.nil {M : List HProp} : Ent M [] := fun _ _ => trivial
theorem Ent.cons {M R N : List HProp} {A : HProp} (p : Pick M A R) (e : Ent R N) : Ent M (A :: N) := fun h s => by
  obtain ⟨h1, h2, a, r, d, l1, l2⟩ := p.sep s
  exact ⟨h1, h2, a, e _ r, d, l1, l2⟩
theorem Ent.trans {M N K : List HProp} (a : Ent M N) (b : Ent N K) : Ent M K := fun h s => b h (a h s)
theorem Ent.append {A B R : List HProp} (a : Ent A B) : Ent (A ++ R) (B ++ R) := fun h s => by
  obtain ⟨h1, h2, x, y, d, l1, l2⟩ := sepL_append s
  exact sepL_join (a _ x) y d l1 l2
theorem Picks.ent {M A R : List HProp} (p : Picks M A R) : Ent M (A ++ R) := fun _ s => p.sep s
theorem pK {M R : List HProp} {A : HProp} (h : Pick M A R := by repeat (first | exact Pick.head | apply Pick.tail)) : Pick M A R := h
theorem pKS {M A R : List HProp} (h : Picks M A R := by repeat (first | exact Picks.nil | (apply Picks.cons; repeat (first | exact Pick.head | apply Pick.tail)))) : Picks M A R := h
theorem eNT {M N : List HProp} (h : Ent M N := by (try simp only [List.cons_append, List.nil_append]); repeat (first | exact Ent.nil | (apply Ent.cons; repeat (first | exact Pick.head | apply Pick.tail)))) : Ent M N := h
theorem sUB {p : Prop} (h : p := by repeat (first | exact trivial | refine ⟨rfl, ?_⟩)) : p := h
def exI {σ : Type} (φ : σ → Prop) (My : σ → List HProp) : HProp := fun h => ∃ y, φ y ∧ sepL (My y) h
theorem Ent.fold {σ : Type} {φ : σ → Prop} {My : σ → List HProp} {M N : List HProp} (y : σ) (hy : φ y) (e : Ent M (My y ++ N)) : Ent M (exI φ My :: N) := fun h s => by
  obtain ⟨h1, h2, a, r, d, l1, l2⟩ := sepL_append (e h s)
  exact ⟨h1, h2, ⟨y, hy, a⟩, r, d, l1, l2⟩
theorem exI_unfold {σ : Type} {φ : σ → Prop} {My : σ → List HProp} {M R : List HProp} (p : Pick M (exI φ My) R) {h : PHeap} (s : sepL M h) : ∃ y, φ y ∧ sepL (My y ++ R) h := by
  obtain ⟨h1, h2, ⟨y, hy, a⟩, r, d, l1, l2⟩ := p.sep s
  exact ⟨y, hy, sepL_join a r d l1 l2⟩
def PHeap.cell? (H : PHeap) (a : Addr) : Option Value :=
  match H a.block with
  | some (.cells c _ _) => if a.spot.isSome then none else c[a.off]?
  | _ => none
theorem cell_of_le {H : PHeap} {w : World} (h : PHeap.le H (ph w)) {a : Addr} {v : Value} (e : H.cell? a = some v) : w.cell? a = some v := by
  unfold PHeap.cell? at e
  unfold World.cell?
  split at e
  · rename_i c t f hb
    have := h _ _ hb
    simp only [ph] at this
    rw [this]
    exact e
  · cases e
structure Fr (D : Nat → Prop) (w w' : World) : Prop where
  os : w'.os = w.os
  tape : w'.tape = w.tape
  output : w'.output = w.output
  size : w.heap.size ≤ w'.heap.size
  block : ∀ k, k < w.heap.size → ¬ D k → w'.heap[k]? = w.heap[k]?
theorem Fr.refl (D : Nat → Prop) (w : World) : Fr D w w := ⟨rfl, rfl, rfl, Nat.le_refl _, fun _ _ _ => rfl⟩
theorem Fr.trans {D E : Nat → Prop} {a b c : World} (h : Fr D a b) (k : Fr E b c) (hE : ∀ x, x < a.heap.size → E x → D x) : Fr D a c :=
  ⟨k.os.trans h.os, k.tape.trans h.tape, k.output.trans h.output, Nat.le_trans h.size k.size,
    fun x hx hn => (k.block x (Nat.lt_of_lt_of_le hx h.size) (fun e => hn (hE x hx e))).trans (h.block x hx hn)⟩
structure Cx where
  W : World
  D : Nat → Prop
  rnd : Option Nat
  ds : List Deferred
abbrev Cx.of (W : World) (D : Nat → Prop) : Cx := ⟨W, D, none, []⟩
def HSt (c : Cx) (M : List HProp) (w : World) : Prop :=
  Fr c.D c.W w ∧ ∃ h, sepL M h ∧ PHeap.le h (ph w) ∧ ∀ b, h b ≠ none → c.D b ∨ c.W.heap.size ≤ b
theorem HSt.ent {c : Cx} {M N : List HProp} {w : World} (e : Ent M N) (s : HSt c M w) : HSt c N w :=
  let ⟨f, h, m, l, d⟩ := s; ⟨f, h, e h m, l, d⟩
theorem HSt.own {c : Cx} {M R : List HProp} {H : PHeap} {w : World} (p : Pick M (own H) R) (s : HSt c M w) : PHeap.le H (ph w) := by
  obtain ⟨_, h, m, l, _⟩ := s
  obtain ⟨h1, _, a, _, _, l1, _⟩ := p.sep m
  rw [← (show h1 = H from a)]
  exact PHeap.le_trans l1 l
theorem HSt.pts {c : Cx} {M R : List HProp} {b : Nat} {o : Obj} {w : World} (p : Pick M (pts b o) R) (s : HSt c M w) : w.heap[b]? = some o :=
  HSt.own p s b o (by simp [single])
theorem HSt.ne_own {c : Cx} {M R R' : List HProp} {b : Nat} {o : Obj} {H : PHeap} {w : World} (p : Pick M (Sx.pts b o) R) (q : Pick R (Sx.own H) R') (s : HSt c M w) : H b = none := by
  obtain ⟨_, h, m, _, _⟩ := s
  obtain ⟨h1, h2, a, r, d, _, _⟩ := p.sep m
  obtain ⟨h3, _, a', _, _, l3, _⟩ := q.sep r
  have a1 : h1 b = some o := by rw [show h1 = _ from a]; simp [single]
  rw [← show h3 = H from a']
  rcases d b with x | x
  · rw [a1] at x; cases x
  · cases e : h3 b with
    | none => rfl
    | some o => rw [l3 _ _ e] at x; cases x
theorem HSt.same {c : Cx} {M : List HProp} {w w' : World} (s : HSt c M w) (h : w'.heap = w.heap) (h1 : w'.os = w.os) (h2 : w'.tape = w.tape) (h3 : w'.output = w.output) : HSt c M w' := by
  obtain ⟨f, k, m, l, d⟩ := s
  refine ⟨⟨h1.trans f.os, h2.trans f.tape, h3.trans f.output, by rw [h]; exact f.size, fun x hx hn => by rw [h]; exact f.block x hx hn⟩, k, m, ?_, d⟩
  intro b o e
  have := l b o e
  simp only [ph] at this ⊢
  rw [h]; exact this
theorem HSt.put {c : Cx} {M R : List HProp} {b : Nat} {o o' : Obj} {w w' : World} (p : Pick M (Sx.pts b o) R) (s : HSt c M w)
    (hs : w'.heap.size = w.heap.size) (hb : w'.heap[b]? = some o') (hk : ∀ k, k ≠ b → w'.heap[k]? = w.heap[k]?) (h1 : w'.os = w.os) (h2 : w'.tape = w.tape) (h3 : w'.output = w.output) : HSt c (Sx.pts b o' :: R) w' := by
  obtain ⟨f, h, m, l, d⟩ := s
  obtain ⟨ha, hr, a, r, dj, l1, l2⟩ := p.sep m
  have ha' : ha = single b o := a
  have hab : h b = some o := l1 _ _ (by rw [ha']; simp [single])
  have hrb : hr b = none := by
    rcases dj b with x | x
    · rw [ha'] at x; simp [single] at x
    · exact x
  refine ⟨⟨h1.trans f.os, h2.trans f.tape, h3.trans f.output, by rw [hs]; exact f.size, fun x hx hn => ?_⟩, PHeap.un (single b o') hr, ?_, ?_, ?_⟩
  · have : x ≠ b := by
      intro e; subst e
      rcases d x (by rw [hab]; simp) with y | y
      · exact hn y
      · omega
    rw [hk x this]; exact f.block x hx hn
  · have dd : PHeap.disj (single b o') hr := fun x => by
      by_cases e : x = b
      · subst e; exact .inr hrb
      · exact .inl (by simp [single, e])
    exact ⟨single b o', hr, rfl, r, dd, PHeap.le_un_left _ _, PHeap.le_un_right dd⟩
  · refine PHeap.un_le ?_ ?_
    · intro x y e
      unfold single at e
      split at e
      · rename_i hx; subst hx; cases e; exact hb
      · cases e
    · intro x y e
      have hx : x ≠ b := by intro h; subst h; rw [hrb] at e; cases e
      show w'.heap[x]? = some y
      rw [hk x hx]
      exact l _ _ (l2 _ _ e)
  · intro x hx
    rcases PHeap.un_none hx with y | y
    · have : x = b := by
        unfold single at y
        split at y
        · assumption
        · exact absurd rfl y
      subst this
      exact d x (by rw [hab]; simp)
    · exact d x (PHeap.le_dom l2 y)
theorem HSt.new {c : Cx} {M : List HProp} {w w' : World} (s : HSt c M w) (o : Obj) (hh : w'.heap = w.heap.push o) (h1 : w'.os = w.os) (h2 : w'.tape = w.tape) (h3 : w'.output = w.output) : HSt c (Sx.pts w.heap.size o :: M) w' := by
  obtain ⟨f, h, m, l, d⟩ := s
  have hfree : h w.heap.size = none := by
    cases e : h w.heap.size with
    | none => rfl
    | some o => have := l _ _ e; simp [ph] at this
  have dd : PHeap.disj (single w.heap.size o) h := fun x => by
    by_cases e : x = w.heap.size
    · subst e; exact .inr hfree
    · exact .inl (by simp [single, e])
  refine ⟨⟨h1.trans f.os, h2.trans f.tape, h3.trans f.output, by rw [hh]; simp; have := f.size; omega, fun x hx hn => ?_⟩, PHeap.un (single w.heap.size o) h, ⟨single w.heap.size o, h, rfl, m, dd, PHeap.le_un_left _ _, PHeap.le_un_right dd⟩, ?_, ?_⟩
  · rw [hh, Array.getElem?_push, if_neg (by have := f.size; omega)]; exact f.block x hx hn
  · refine PHeap.un_le ?_ ?_
    · intro x y e
      unfold single at e
      split at e
      · rename_i hx; subst hx; cases e; simp [ph, hh]
      · cases e
    · intro x y e
      have := l _ _ e
      simp only [ph] at this ⊢
      have hx : x < w.heap.size := (Array.getElem?_eq_some_iff.1 this).1
      rw [hh, Array.getElem?_push, if_neg (by omega)]; exact this
  · intro x hx
    rcases PHeap.un_none hx with y | y
    · have : x = w.heap.size := by
        unfold single at y
        split at y
        · assumption
        · exact absurd rfl y
      subst this
      exact .inr f.size
    · exact d x y
theorem HSt.call {c : Cx} {R B : List HProp} {w w' : World} {h ha hr : PHeap} (f : Fr c.D c.W w) (l : PHeap.le h (ph w)) (d : ∀ b, h b ≠ none → c.D b ∨ c.W.heap.size ≤ b)
    (r : sepL R hr) (dj : PHeap.disj ha hr) (l1 : PHeap.le ha h) (l2 : PHeap.le hr h) (k : HSt (Cx.of w fun b => ha b ≠ none) B w') : HSt c (B ++ R) w' := by
  obtain ⟨f', h', m', l', d'⟩ := k
  have hrw : PHeap.le hr (ph w') := fun x o e => by
    have h0 := l _ _ (l2 _ _ e)
    simp only [ph] at h0 ⊢
    have hx : x < w.heap.size := (Array.getElem?_eq_some_iff.1 h0).1
    rw [f'.block x hx (fun hn => by
      rcases dj x with y | y
      · exact hn y
      · rw [e] at y; cases y)]
    exact h0
  have dd : PHeap.disj h' hr := fun x => by
    cases e : hr x with
    | none => exact .inr rfl
    | some o =>
      left
      cases e' : h' x with
      | none => rfl
      | some o' =>
        rcases d' x (by simp [e']) with y | y
        · rcases dj x with z | z
          · exact absurd z y
          · rw [e] at z; cases z
        · have h0 := l _ _ (l2 _ _ e)
          simp only [ph] at h0
          have hx : x < w.heap.size := (Array.getElem?_eq_some_iff.1 h0).1
          have y' : w.heap.size ≤ x := y
          omega
  refine ⟨f.trans f' (fun x hx hn => ?_), PHeap.un h' hr, sepL_join m' r dd (PHeap.le_un_left _ _) (PHeap.le_un_right dd), PHeap.un_le l' hrw, fun x hx => ?_⟩
  · rcases d x (PHeap.le_dom l1 hn) with y | y
    · exact y
    · omega
  · rcases PHeap.un_none hx with y | y
    · rcases d' x y with z | z
      · exact d x (PHeap.le_dom l1 z)
      · exact .inr (Nat.le_trans f.size z)
    · exact d x (PHeap.le_dom l2 y)
end Go.Sx
