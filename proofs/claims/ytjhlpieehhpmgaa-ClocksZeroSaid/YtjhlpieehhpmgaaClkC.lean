/-
  The package clocks told by the row of the times.
-/
import Derived.Test.YtjhlpieehhpmgaaClkB
set_option linter.unusedSimpArgs false
set_option linter.unusedVariables false
namespace Go.Proofs.Ytjhlpieehhpmgaa
open Go Go.Sx
abbrev clkC (z p : Nat) : HProp := pts z (.cells [ptr p].toArray 54 (0, 0))
structure ClkSt where
  p : Nat
  q : Nat
  l : List DE
def clkI (z : Nat) (T : List Int) : HProp := exI (σ := ClkSt) (fun s => ClkInv T s.l) fun s => [clkC z s.p, pileI s.p s.q s.l]
attribute [local irreducible] MidQ wpE wpO wpC qE wpQ wpQO wpH wpHO wpD wpDO wpZ Ev own emp exI sl ch PostS LoopQ Rd rowsAt
theorem clkI_mk {z p q : Nat} {T : List Int} {l : List DE} {M R : List HProp} (I : ClkInv T l) (e : Ent M ([clkC z p, pileI p q l] ++ R)) : Ent M (clkI z T :: R) := Ent.fold (⟨p, q, l⟩ : ClkSt) I e
theorem clk_none (z p : Nat) : FnDoes Try.prog 24 [ptr z] [clkC z p] (fun _ : Unit => True) (fun _ => .bool false) (fun _ => [clkC z p]) := by
  refine does_of Try.func24 rfl rfl Try.ntmps24 rfl (by simp only [enum, Nat.reduceAdd, Nat.zero_add]; exact rfl) (fun c => ?_)
  (refine go ?_; intros)
  refine q_ret1 rfl rfl () rfl trivial ?_
  exact Ent.refl _
theorem clk_new : FnDoes Try.prog 8 [] [] (fun _ : Nat => True) (fun z => ptr z) (fun z => [clkI z (List.replicate 8 (-1))]) := by
  refine does_of Try.func8 rfl rfl Try.ntmps8 rfl (by simp only [enum, Nat.reduceAdd, Nat.zero_add]; exact rfl) (fun c => ?_)
  (refine go ?_; intros)
  refine o_makeMap rfl (fun q => ?_)
  (refine go ?_; intro p z)
  (refine go ?_; intros)
  refine q_ret1 rfl rfl z rfl trivial ?_
  refine clkI_mk (p := p) (q := q) clk_nil ?_
  refine Ent.cons (by repeat (first | exact Pick.head | apply Pick.tail)) (Ent.fold (⟨.slice none 0 0, []⟩ : PileSt) wh_nil (Ent.cons (by repeat (first | exact Pick.head | apply Pick.tail)) (Ent.slNil ?_)))
  ((try simp only [List.cons_append, List.nil_append]); repeat (first | exact Ent.nil | (apply Ent.cons; repeat (first | exact Pick.head | apply Pick.tail))))
theorem clk_set (z : Nat) (T : List Int) (who due : Int) : FnDoes Try.prog 9 [ptr z, .int .i64 who, .int .i64 due] [clkI z T] (fun _ : Unit => True) (fun _ => .int .i64 (setV who due)) (fun _ => [clkI z (setT T who due)]) := by
  refine does_of Try.func9 rfl rfl Try.ntmps9 rfl (by simp only [enum, Nat.reduceAdd, Nat.zero_add]; exact rfl) (fun c => ?_)
  refine wpC_unfold .head (fun s I => ?_)
  obtain ⟨p, q, l⟩ := s
  simp only [List.cons_append, List.nil_append] at I ⊢
  by_cases h1 : who < 0
  · obtain ⟨e1, e2⟩ := set_bad (T := T) (due := due) (.inl h1)
    rw [e1, e2]
    (refine go ?_; intros)
    (show wpO _ _ ⟨_, .call _, _, _, _, _⟩ _ _ _ _ _ _; refine o_callA (clk_none z p) (fun _ _ => ?_); try simp only [List.cons_append, List.nil_append])
    (refine go ?_; intros)
    exact q_ret1 rfl rfl () rfl trivial (clkI_mk I (by ((try simp only [List.cons_append, List.nil_append]); repeat (first | exact Ent.nil | (apply Ent.cons; repeat (first | exact Pick.head | apply Pick.tail))))))
  by_cases h2 : 8 ≤ who
  · obtain ⟨e1, e2⟩ := set_bad (T := T) (due := due) (.inr h2)
    rw [e1, e2]
    (refine go ?_; intros)
    (show wpO _ _ ⟨_, .call _, _, _, _, _⟩ _ _ _ _ _ _; refine o_callA (clk_none z p) (fun _ _ => ?_); try simp only [List.cons_append, List.nil_append])
    (refine go ?_; intros)
    exact q_ret1 rfl rfl () rfl trivial (clkI_mk I (by ((try simp only [List.cons_append, List.nil_append]); repeat (first | exact Ent.nil | (apply Ent.cons; repeat (first | exact Pick.head | apply Pick.tail))))))
  by_cases h3 : due < 0
  · obtain ⟨e1, e2⟩ := set_range (T := T) (who := who) (by omega) h3
    rw [e1, e2]
    (refine go ?_; intros)
    (show wpO _ _ ⟨_, .call _, _, _, _, _⟩ _ _ _ _ _ _; refine o_callA (clk_none z p) (fun _ _ => ?_); try simp only [List.cons_append, List.nil_append])
    (refine go ?_; intros)
    exact q_ret1 rfl rfl () rfl trivial (clkI_mk I (by ((try simp only [List.cons_append, List.nil_append]); repeat (first | exact Ent.nil | (apply Ent.cons; repeat (first | exact Pick.head | apply Pick.tail))))))
  obtain ⟨k, rfl⟩ : ∃ k : Nat, who = k := ⟨who.toNat, by omega⟩
  have hk : k < 8 := by omega
  have hle := I.le
  obtain ⟨e1, e2⟩ := set_ok (T := T) hk (show 0 ≤ due by omega)
  rw [e1, e2]
  refine wpC_unfold (.tail .head) (fun s W => ?_)
  obtain ⟨v, es⟩ := s
  simp only [List.cons_append, List.nil_append] at W ⊢
  rcases I.there W k hk with ⟨n1, n2, n3⟩ | ⟨j, j1, j2, j3, j4⟩
  · (refine go ?_; intros)
    (show wpO _ _ ⟨_, .call _, _, _, _, _⟩ _ _ _ _ _ _; refine o_callA (clk_none z p) (fun _ _ => ?_); try simp only [List.cons_append, List.nil_append])
    (refine go ?_; intros)
    refine o_evB (ev_lookupOk rfl rfl rfl rfl rfl rfl (by repeat (first | exact Pick.head | apply Pick.tail))) ?_
    rw [n2]
    simp only [Option.getD_none, Option.isSome_none]
    (refine go ?_; intros)
    refine wpO_ent (N := [pileI p q l, clkC z p]) (Ent.fold (⟨v, es⟩ : PileSt) W (by ((try simp only [List.cons_append, List.nil_append]); repeat (first | exact Ent.nil | (apply Ent.cons; repeat (first | exact Pick.head | apply Pick.tail)))))) ?_
    (show wpO _ _ ⟨_, .call _, _, _, _, _⟩ _ _ _ _ _ _; refine o_callA (heap_push (pileOps p q) l ((k : Int), due) _ (by omega) (pile_pushInv p q l ((k : Int), due) n3 (by omega))) (fun _ _ => ?_); try simp only [List.cons_append, List.nil_append])
    (refine go ?_; intros)
    exact q_ret1 rfl rfl () rfl trivial (clkI_mk (I.push hk (by omega) n1) (by ((try simp only [List.cons_append, List.nil_append]); repeat (first | exact Ent.nil | (apply Ent.cons; repeat (first | exact Pick.head | apply Pick.tail))))))
  · refine wpC_sl (.tail .head) (fun _ h _ => by omega) (fun b cap junk e q1 q2 q3 => ?_)
    subst e
    have hL : (l.flatMap entC ++ junk).length = l.length * 2 + junk.length := by rw [List.length_append, fm_length entC_len]
    (refine go ?_; intros)
    (show wpO _ _ ⟨_, .call _, _, _, _, _⟩ _ _ _ _ _ _; refine o_callA (clk_none z p) (fun _ _ => ?_); try simp only [List.cons_append, List.nil_append])
    (refine go ?_; intros)
    refine o_evB (ev_lookupOk rfl rfl rfl rfl rfl rfl (by repeat (first | exact Pick.head | apply Pick.tail))) ?_
    rw [j3]
    simp only [Option.getD_some, Option.isSome_some]
    (refine go ?_; intros)
    have hput : (l.flatMap entC ++ junk).set (j * 2 + 1) (.int .i64 due) = (l.set j ((k : Int), due)).flatMap entC ++ junk := by
      rw [List.set_append_left _ _ (by rw [fm_length entC_len]; omega), fm_set entC_len l j j1 (m' := ((k : Int), due)) (by rw [← nth_eq j1, j2]; rfl) (by omega)]
    rw [hput]
    have hW : Wh (l.set j ((k : Int), due)) es := W.same (by simp) fun m hm => by
      rw [nth_set j1]; split
      · rename_i e; subst e; rw [j2]
      · rfl
    have hlen : (l.set j ((k : Int), due)).length = l.length := by simp
    refine wpO_ent (N := [pileI p q (l.set j ((k : Int), due)), clkC z p]) (pile_close (l := l) hlen hW q1 q2 q3 (by ((try simp only [List.cons_append, List.nil_append]); repeat (first | exact Ent.nil | (apply Ent.cons; repeat (first | exact Pick.head | apply Pick.tail)))))) ?_
    have S := heap_fix (pileOps p q) (l.set j ((k : Int), due)) j (by omega) (by omega)
    rw [hlen] at S
    (show wpO _ _ ⟨_, .call _, _, _, _, _⟩ _ _ _ _ _ _; refine o_callA (S) (fun _ _ => ?_); try simp only [List.cons_append, List.nil_append])
    (refine go ?_; intros)
    exact q_ret1 rfl rfl () rfl trivial (clkI_mk (I.reset W hk (by omega) j1 j2 j4) (by ((try simp only [List.cons_append, List.nil_append]); repeat (first | exact Ent.nil | (apply Ent.cons; repeat (first | exact Pick.head | apply Pick.tail))))))
theorem clk_drop (z : Nat) (T : List Int) (who : Int) : FnDoes Try.prog 18 [ptr z, .int .i64 who] [clkI z T] (fun _ : Unit => True) (fun _ => .bool (dropV T who)) (fun _ => [clkI z (dropT T who)]) := by
  refine does_of Try.func18 rfl rfl Try.ntmps18 rfl (by simp only [enum, Nat.reduceAdd, Nat.zero_add]; exact rfl) (fun c => ?_)
  refine wpC_unfold .head (fun s I => ?_)
  obtain ⟨p, q, l⟩ := s
  simp only [List.cons_append, List.nil_append] at I ⊢
  have hle := I.le
  refine wpC_unfold (.tail .head) (fun s W => ?_)
  obtain ⟨v, es⟩ := s
  simp only [List.cons_append, List.nil_append] at W ⊢
  by_cases h : 0 ≤ who ∧ who < 8 ∧ 0 ≤ dueOf T who.toNat
  · obtain ⟨k, rfl⟩ : ∃ k : Nat, who = k := ⟨who.toNat, by omega⟩
    rw [Int.toNat_natCast] at h
    have hk : k < 8 := by omega
    obtain ⟨e1, e2⟩ := drop_yes hk h.2.2
    rw [e1, e2]
    rcases I.there W k hk with ⟨n1, n2, n3⟩ | ⟨j, j1, j2, j3, j4⟩
    · omega
    · obtain ⟨n, hn⟩ : ∃ n, l.length = n + 1 := ⟨l.length - 1, by omega⟩
      obtain ⟨r1, r2, r3, r4⟩ := remL_all ltE_ok l j n hn (by omega) I.hp
      (refine go ?_; intros)
      (show wpO _ _ ⟨_, .call _, _, _, _, _⟩ _ _ _ _ _ _; refine o_callA (clk_none z p) (fun _ _ => ?_); try simp only [List.cons_append, List.nil_append])
      (refine go ?_; intros)
      refine o_evB (ev_lookupOk rfl rfl rfl rfl rfl rfl (by repeat (first | exact Pick.head | apply Pick.tail))) ?_
      rw [j3]
      simp only [Option.getD_some, Option.isSome_some]
      (refine go ?_; intros)
      refine wpO_ent (N := [pileI p q l, clkC z p]) (Ent.fold (⟨v, es⟩ : PileSt) W (by ((try simp only [List.cons_append, List.nil_append]); repeat (first | exact Ent.nil | (apply Ent.cons; repeat (first | exact Pick.head | apply Pick.tail)))))) ?_
      (show wpO _ _ ⟨_, .call _, _, _, _, _⟩ _ _ _ _ _ _; refine o_callA (heap_remove (pileOps p q) l j n hn (by omega) (by omega) _ (pile_popInv p q (remL ltE l j n) n r1 (by omega))) (fun _ _ => ?_); try simp only [List.cons_append, List.nil_append])
      (refine go ?_; intros)
      exact q_ret1 rfl rfl () rfl trivial (clkI_mk (I.out W hk hn (by omega) j2 j4 r2 r3 r4) (by ((try simp only [List.cons_append, List.nil_append]); repeat (first | exact Ent.nil | (apply Ent.cons; repeat (first | exact Pick.head | apply Pick.tail))))))
  · obtain ⟨e1, e2⟩ := drop_no h
    rw [e1, e2]
    have hm : mget es who = none := by
      by_cases c1 : who < 0 ∨ 8 ≤ who
      · exact I.notThere W c1
      · obtain ⟨k, rfl⟩ : ∃ k : Nat, who = k := ⟨who.toNat, by omega⟩
        rw [Int.toNat_natCast] at h
        rcases I.there W k (by omega) with ⟨n1, n2, n3⟩ | ⟨j, j1, j2, j3, j4⟩
        · exact n2
        · omega
    (refine go ?_; intros)
    (show wpO _ _ ⟨_, .call _, _, _, _, _⟩ _ _ _ _ _ _; refine o_callA (clk_none z p) (fun _ _ => ?_); try simp only [List.cons_append, List.nil_append])
    (refine go ?_; intros)
    refine o_evB (ev_lookupOk rfl rfl rfl rfl rfl rfl (by repeat (first | exact Pick.head | apply Pick.tail))) ?_
    rw [hm]
    simp only [Option.getD_none, Option.isSome_none]
    (refine go ?_; intros)
    refine q_ret1 rfl rfl () rfl trivial ?_
    refine clkI_mk (p := p) (q := q) I (Ent.cons (by repeat (first | exact Pick.head | apply Pick.tail)) (Ent.fold (⟨v, es⟩ : PileSt) W (by ((try simp only [List.cons_append, List.nil_append]); repeat (first | exact Ent.nil | (apply Ent.cons; repeat (first | exact Pick.head | apply Pick.tail)))))))
theorem clk_due (z : Nat) (T : List Int) (k : Nat) (hk : k < 8) : FnDoes Try.prog 23 [ptr z, .int .i64 k] [clkI z T] (fun _ : Unit => True) (fun _ => .tuple #[.int .i64 (if 0 ≤ dueOf T k then dueOf T k else 0), .bool (decide (0 ≤ dueOf T k))]) (fun _ => [clkI z T]) := by
  refine does_of Try.func23 rfl rfl Try.ntmps23 rfl (by simp only [enum, Nat.reduceAdd, Nat.zero_add]; exact rfl) (fun c => ?_)
  refine wpC_unfold .head (fun s I => ?_)
  obtain ⟨p, q, l⟩ := s
  simp only [List.cons_append, List.nil_append] at I ⊢
  have hle := I.le
  refine wpC_unfold (.tail .head) (fun s W => ?_)
  obtain ⟨v, es⟩ := s
  simp only [List.cons_append, List.nil_append] at W ⊢
  rcases I.there W k hk with ⟨n1, n2, n3⟩ | ⟨j, j1, j2, j3, j4⟩
  · rw [if_neg (by omega), decide_eq_false (by omega)]
    (refine go ?_; intros)
    (show wpO _ _ ⟨_, .call _, _, _, _, _⟩ _ _ _ _ _ _; refine o_callA (clk_none z p) (fun _ _ => ?_); try simp only [List.cons_append, List.nil_append])
    (refine go ?_; intros)
    refine o_evB (ev_lookupOk rfl rfl rfl rfl rfl rfl (by repeat (first | exact Pick.head | apply Pick.tail))) ?_
    rw [n2]
    simp only [Option.getD_none, Option.isSome_none]
    (refine go ?_; intros)
    refine q_ret2 rfl rfl rfl () rfl trivial ?_
    refine clkI_mk (p := p) (q := q) I (Ent.cons (by repeat (first | exact Pick.head | apply Pick.tail)) (Ent.fold (⟨v, es⟩ : PileSt) W (by ((try simp only [List.cons_append, List.nil_append]); repeat (first | exact Ent.nil | (apply Ent.cons; repeat (first | exact Pick.head | apply Pick.tail)))))))
  · rw [if_pos j4, decide_eq_true j4]
    refine wpC_sl (.tail .head) (fun _ h _ => by omega) (fun b cap junk e q1 q2 q3 => ?_)
    subst e
    have hd := ent_due (junk := junk) j1
    rw [j2] at hd
    (refine go ?_; intros)
    (show wpO _ _ ⟨_, .call _, _, _, _, _⟩ _ _ _ _ _ _; refine o_callA (clk_none z p) (fun _ _ => ?_); try simp only [List.cons_append, List.nil_append])
    (refine go ?_; intros)
    refine o_evB (ev_lookupOk rfl rfl rfl rfl rfl rfl (by repeat (first | exact Pick.head | apply Pick.tail))) ?_
    rw [j3]
    simp only [Option.getD_some, Option.isSome_some]
    (refine go ?_; intros)
    refine q_ret2 rfl rfl rfl () rfl trivial ?_
    refine clkI_mk (p := p) (q := q) I (Ent.cons (by repeat (first | exact Pick.head | apply Pick.tail)) (pile_close rfl W q1 q2 q3 (by ((try simp only [List.cons_append, List.nil_append]); repeat (first | exact Ent.nil | (apply Ent.cons; repeat (first | exact Pick.head | apply Pick.tail)))))))
theorem clk_next (z : Nat) (T : List Int) : FnDoes Try.prog 21 [ptr z] [clkI z T] (fun y : Option Nat => IsFirst T 8 y) (fun y => .tuple #[.int .i64 (firstV T y), .bool y.isSome]) (fun _ => [clkI z T]) := by
  refine does_of Try.func21 rfl rfl Try.ntmps21 rfl (by simp only [enum, Nat.reduceAdd, Nat.zero_add]; exact rfl) (fun c => ?_)
  refine wpC_unfold .head (fun s I => ?_)
  obtain ⟨p, q, l⟩ := s
  simp only [List.cons_append, List.nil_append] at I ⊢
  have hle := I.le
  refine wpC_unfold (.tail .head) (fun s W => ?_)
  obtain ⟨v, es⟩ := s
  simp only [List.cons_append, List.nil_append] at W ⊢
  rcases I.first with ⟨rfl, f⟩ | ⟨k, h0, h1, f⟩
  · (refine go ?_; intros)
    (show wpO _ _ ⟨_, .call _, _, _, _, _⟩ _ _ _ _ _ _; refine o_callA (clk_none z p) (fun _ _ => ?_); try simp only [List.cons_append, List.nil_append])
    (refine go ?_; intros)
    refine q_ret2 rfl rfl rfl none rfl f ?_
    refine clkI_mk (p := p) (q := q) I (Ent.cons (by repeat (first | exact Pick.head | apply Pick.tail)) (Ent.fold (⟨v, es⟩ : PileSt) W (by ((try simp only [List.cons_append, List.nil_append]); repeat (first | exact Ent.nil | (apply Ent.cons; repeat (first | exact Pick.head | apply Pick.tail)))))))
  · refine wpC_sl (.tail .head) (fun _ h _ => by omega) (fun b cap junk e q1 q2 q3 => ?_)
    subst e
    have hd := ent_due (junk := junk) h0
    rw [h1] at hd
    have hne : ¬ ((l.length : Int) = 0) := by omega
    (refine go ?_; intros)
    (show wpO _ _ ⟨_, .call _, _, _, _, _⟩ _ _ _ _ _ _; refine o_callA (clk_none z p) (fun _ _ => ?_); try simp only [List.cons_append, List.nil_append])
    (refine go ?_; intros)
    refine q_ret2 rfl rfl rfl (some k) rfl f ?_
    refine clkI_mk (p := p) (q := q) I (Ent.cons (by repeat (first | exact Pick.head | apply Pick.tail)) (pile_close rfl W q1 q2 q3 (by ((try simp only [List.cons_append, List.nil_append]); repeat (first | exact Ent.nil | (apply Ent.cons; repeat (first | exact Pick.head | apply Pick.tail)))))))
theorem clk_len (z : Nat) (T : List Int) : FnDoes Try.prog 15 [ptr z] [clkI z T] (fun _ : Unit => True) (fun _ => .int .i64 (cntD T)) (fun _ => [clkI z T]) := by
  refine does_of Try.func15 rfl rfl Try.ntmps15 rfl (by simp only [enum, Nat.reduceAdd, Nat.zero_add]; exact rfl) (fun c => ?_)
  refine wpC_unfold .head (fun s I => ?_)
  obtain ⟨p, q, l⟩ := s
  simp only [List.cons_append, List.nil_append] at I ⊢
  refine wpC_unfold (.tail .head) (fun s W => ?_)
  obtain ⟨v, es⟩ := s
  simp only [List.cons_append, List.nil_append] at W ⊢
  rw [← I.cnt]
  (refine go ?_; intros)
  (show wpO _ _ ⟨_, .call _, _, _, _, _⟩ _ _ _ _ _ _; refine o_callA (clk_none z p) (fun _ _ => ?_); try simp only [List.cons_append, List.nil_append])
  (refine go ?_; intros)
  refine q_ret1 rfl rfl () rfl trivial ?_
  refine clkI_mk (p := p) (q := q) I (Ent.cons (by repeat (first | exact Pick.head | apply Pick.tail)) (Ent.fold (⟨v, es⟩ : PileSt) W (by ((try simp only [List.cons_append, List.nil_append]); repeat (first | exact Ent.nil | (apply Ent.cons; repeat (first | exact Pick.head | apply Pick.tail)))))))
end Go.Proofs.Ytjhlpieehhpmgaa
