/-
  What each function of the package inbox does.
-/
import Derived.Test.YtaodhkiejnipmaaDoorSqX
set_option linter.unusedSimpArgs false
set_option linter.unusedVariables false
set_option maxRecDepth 20000
namespace Go.Proofs.YtaodhkiejnipmaaDoor
open Go Go.Sx
abbrev inC (b : Nat) (C : List Value) : HProp := pts b (.cells C.toArray 108 (0, 0))
def inboxI (b : Nat) (l : List Int) : HProp := exI (σ := List Value) (fun C => InC C l) fun C => [inC b C]
attribute [local irreducible] MidQ wpE wpO wpC qE wpQ wpQO wpH wpHO wpD wpDO wpZ Ev own emp exI sl ch PostS LoopQ Rd rowsAt

theorem inb_noneNil : FnDoes Tryd.prog 70 [.pointer none] [] (fun _ : Unit => True) (fun _ => .bool true) (fun _ => []) := by
  refine does_of Tryd.func70 rfl rfl Tryd.ntmps70 rfl (by simp only [enum, Nat.reduceAdd, Nat.zero_add]; exact rfl) (fun c => ?_)
  (refine go ?_; intros)
  exact q_ret1 rfl rfl () rfl trivial (Ent.refl _)
theorem inb_noneRaw (b : Nat) (C : List Value) (h : C[17]? = some (.bool true)) : FnDoes Tryd.prog 70 [ptr b] [inC b C] (fun _ : Unit => True) (fun _ => .bool false) (fun _ => [inC b C]) := by
  refine does_of Tryd.func70 rfl rfl Tryd.ntmps70 rfl (by simp only [enum, Nat.reduceAdd, Nat.zero_add]; exact rfl) (fun c => ?_)
  (refine go ?_; intros)
  exact q_ret1 rfl rfl () rfl trivial (Ent.refl _)
theorem inb_noneZero (b : Nat) (C : List Value) (h : C[17]? = some (.bool false)) : FnDoes Tryd.prog 70 [ptr b] [inC b C] (fun _ : Unit => True) (fun _ => .bool true) (fun _ => [inC b C]) := by
  refine does_of Tryd.func70 rfl rfl Tryd.ntmps70 rfl (by simp only [enum, Nat.reduceAdd, Nat.zero_add]; exact rfl) (fun c => ?_)
  (refine go ?_; intros)
  exact q_ret1 rfl rfl () rfl trivial (Ent.refl _)
theorem inb_rd {b : Nat} {C : List Value} {l : List Int} (h : InC C l) (hl : l.length ≤ 16) : Rd (inC b C) 1 (.slice (some ⟨b, 0, none⟩) l.length 16) l.length (ints l) := Rd.ofPart (ints_length l) (ints_one l) hl (fun j u hu => by
  rw [Nat.zero_add]
  have hj : j < l.length := by
    have := (List.getElem?_eq_some_iff.1 hu).1
    rwa [ints_len] at this
  rw [ints_get hj] at hu
  cases hu
  exact h.at_ j hj)

theorem inb_findT (b : Nat) (C : List Value) (l : List Int) (id : Int) (h : InC C l) (ho : InOk l) (hm : id ∈ l) : FnDoes Tryd.prog 71 [ptr b, .int .i64 id] [inC b C] (fun k : Nat => Lb l id k ∧ l[k]? = some id)
    (fun k => .tuple #[.int .i64 k, .bool true]) (fun _ => [inC b C]) := by
  refine does_of Tryd.func71 rfl rfl Tryd.ntmps71 rfl (by simp only [enum, Nat.reduceAdd, Nat.zero_add]; exact rfl) (fun c => ?_)
  have hcnt := h.cnt
  (refine go ?_; intros)
  refine wpC_drawnA [inC b C] 13 ?_
  ((first | refine dt 0 ?_ | refine dts 0 ?_); (first | refine dt 1 ?_ | refine dts 1 ?_); (first | refine dt 2 ?_ | refine dts 2 ?_); (first | refine dt 3 ?_ | refine dts 3 ?_); (first | refine dt 4 ?_ | refine dts 4 ?_); (first | refine dt 5 ?_ | refine dts 5 ?_); (first | refine dt 6 ?_ | refine dts 6 ?_))
  refine dtB 7 rfl (ev_arrHi (h := l.length) rfl rfl rfl rfl rfl ho.2.1) ?_
  ((first | refine df 8 ?_ | refine dfs 8 ?_))
  (refine dcall 9 (bin_search (inC b C) (.slice (some ⟨b, 0, none⟩) l.length 16) l id (inb_rd h ho.2.1) ho.1 (by have := ho.2.1; omega)) (fun k hk => ?_); try simp only [List.cons_append, List.nil_append])
  have e := (lb_mem ho.1 hk).1 hm
  simp only [decide_eq_true e]
  ((first | refine dt 10 ?_ | refine dts 10 ?_); (first | refine df 11 ?_ | refine dfs 11 ?_); (first | refine df 12 ?_ | refine dfs 12 ?_); refine dl ?_)
  (refine go ?_; intros)
  exact q_ret2 rfl rfl rfl k rfl ⟨hk, e⟩ (Ent.refl _)
theorem inb_findF (b : Nat) (C : List Value) (l : List Int) (id : Int) (h : InC C l) (ho : InOk l) (hm : id ∉ l) : FnDoes Tryd.prog 71 [ptr b, .int .i64 id] [inC b C] (fun k : Nat => Lb l id k)
    (fun k => .tuple #[.int .i64 k, .bool false]) (fun _ => [inC b C]) := by
  refine does_of Tryd.func71 rfl rfl Tryd.ntmps71 rfl (by simp only [enum, Nat.reduceAdd, Nat.zero_add]; exact rfl) (fun c => ?_)
  have hcnt := h.cnt
  (refine go ?_; intros)
  refine wpC_drawnA [inC b C] 13 ?_
  ((first | refine dt 0 ?_ | refine dts 0 ?_); (first | refine dt 1 ?_ | refine dts 1 ?_); (first | refine dt 2 ?_ | refine dts 2 ?_); (first | refine dt 3 ?_ | refine dts 3 ?_); (first | refine dt 4 ?_ | refine dts 4 ?_); (first | refine dt 5 ?_ | refine dts 5 ?_); (first | refine dt 6 ?_ | refine dts 6 ?_))
  refine dtB 7 rfl (ev_arrHi (h := l.length) rfl rfl rfl rfl rfl ho.2.1) ?_
  ((first | refine df 8 ?_ | refine dfs 8 ?_))
  (refine dcall 9 (bin_search (inC b C) (.slice (some ⟨b, 0, none⟩) l.length 16) l id (inb_rd h ho.2.1) ho.1 (by have := ho.2.1; omega)) (fun k hk => ?_); try simp only [List.cons_append, List.nil_append])
  have e : ¬ l[k]? = some id := fun e => hm ((lb_mem ho.1 hk).2 e)
  simp only [decide_eq_false e]
  ((first | refine dt 10 ?_ | refine dts 10 ?_); (first | refine df 11 ?_ | refine dfs 11 ?_); (first | refine df 12 ?_ | refine dfs 12 ?_); refine dl ?_)
  (refine go ?_; intros)
  exact q_ret2 rfl rfl rfl k rfl hk (Ent.refl _)

theorem inb_new : FnDoes Tryd.prog 29 [] [] (fun _ : Nat => True) (fun b => ptr b) (fun b => [inboxI b []]) := by
  refine does_of Tryd.func29 rfl rfl Tryd.ntmps29 rfl (by simp only [enum, Nat.reduceAdd, Nat.zero_add]; exact rfl) (fun c => ?_)
  (refine go ?_; intro b)
  (refine go ?_; intros)
  refine q_ret1 rfl rfl b rfl trivial ?_
  exact Ent.fold _ ⟨rfl, rfl, rfl, rfl, fun j h => by simp at h⟩ (Ent.cons .head Ent.nil)

theorem inb_comeBad (b : Nat) (l : List Int) (id : Int) (h : id < 1 ∨ 65535 < id) : FnDoes Tryd.prog 47 [ptr b, .int .i64 id] [inboxI b l] (fun _ : Unit => True) (fun _ => .tuple #[.bool false, .int .i64 1]) (fun _ => [inboxI b l]) := by
  refine does_of Tryd.func47 rfl rfl Tryd.ntmps47 rfl (by simp only [enum, Nat.reduceAdd, Nat.zero_add]; exact rfl) (fun c => ?_)
  refine wpC_unfold .head (fun C hC => ?_)
  simp only [List.cons_append, List.nil_append]
  (refine go ?_; intros)
  (show wpO _ _ ⟨_, .call _, _, _, _, _⟩ _ _ _ _ _ _; refine o_callA (inb_noneRaw b C hC.made) (fun _ _ => ?_); try simp only [List.cons_append, List.nil_append])
  by_cases h1 : id < 1
  all_goals
    (refine go ?_; intros)
    refine q_ret2 rfl rfl rfl () rfl trivial ?_
    exact Ent.fold C hC (by ((try simp only [List.cons_append, List.nil_append]); repeat (first | exact Ent.nil | (apply Ent.cons; repeat (first | exact Pick.head | apply Pick.tail)))))
theorem inb_comeThere (b : Nat) (l : List Int) (id : Int) (ho : InOk l) (h : id ∈ l) : FnDoes Tryd.prog 47 [ptr b, .int .i64 id] [inboxI b l] (fun _ : Unit => True) (fun _ => .tuple #[.bool false, .int .i64 0]) (fun _ => [inboxI b l]) := by
  refine does_of Tryd.func47 rfl rfl Tryd.ntmps47 rfl (by simp only [enum, Nat.reduceAdd, Nat.zero_add]; exact rfl) (fun c => ?_)
  obtain ⟨h1, h2⟩ := ho.2.2 id h
  refine wpC_unfold .head (fun C hC => ?_)
  simp only [List.cons_append, List.nil_append]
  (refine go ?_; intros)
  (show wpO _ _ ⟨_, .call _, _, _, _, _⟩ _ _ _ _ _ _; refine o_callA (inb_noneRaw b C hC.made) (fun _ _ => ?_); try simp only [List.cons_append, List.nil_append])
  (refine go ?_; intros)
  (show wpO _ _ ⟨_, .call _, _, _, _, _⟩ _ _ _ _ _ _; refine o_callA (inb_findT b C l id hC ho h) (fun k hk => ?_); try simp only [List.cons_append, List.nil_append])
  (refine go ?_; intros)
  refine q_ret2 rfl rfl rfl () rfl trivial ?_
  exact Ent.fold C hC (by ((try simp only [List.cons_append, List.nil_append]); repeat (first | exact Ent.nil | (apply Ent.cons; repeat (first | exact Pick.head | apply Pick.tail)))))
theorem inb_comeFull (b : Nat) (l : List Int) (id : Int) (ho : InOk l) (h : id ∉ l) (h1 : 1 ≤ id) (h2 : id ≤ 65535) (hl : l.length = 16) : FnDoes Tryd.prog 47 [ptr b, .int .i64 id] [inboxI b l] (fun _ : Unit => True) (fun _ => .tuple #[.bool false, .int .i64 6]) (fun _ => [inboxI b l]) := by
  refine does_of Tryd.func47 rfl rfl Tryd.ntmps47 rfl (by simp only [enum, Nat.reduceAdd, Nat.zero_add]; exact rfl) (fun c => ?_)
  refine wpC_unfold .head (fun C hC => ?_)
  simp only [List.cons_append, List.nil_append]
  have hcnt := hC.cnt
  (refine go ?_; intros)
  (show wpO _ _ ⟨_, .call _, _, _, _, _⟩ _ _ _ _ _ _; refine o_callA (inb_noneRaw b C hC.made) (fun _ _ => ?_); try simp only [List.cons_append, List.nil_append])
  (refine go ?_; intros)
  (show wpO _ _ ⟨_, .call _, _, _, _, _⟩ _ _ _ _ _ _; refine o_callA (inb_findF b C l id hC ho h) (fun k hk => ?_); try simp only [List.cons_append, List.nil_append])
  (refine go ?_; intros)
  refine q_ret2 rfl rfl rfl () rfl trivial ?_
  exact Ent.fold C hC (by ((try simp only [List.cons_append, List.nil_append]); repeat (first | exact Ent.nil | (apply Ent.cons; repeat (first | exact Pick.head | apply Pick.tail)))))
theorem inb_come (b : Nat) (l : List Int) (id : Int) (ho : InOk l) (h : id ∉ l) (h1 : 1 ≤ id) (h2 : id ≤ 65535) (hl : l.length < 16) : FnDoes Tryd.prog 47 [ptr b, .int .i64 id] [inboxI b l] (fun k : Nat => Lb l id k) (fun _ => .tuple #[.bool true, .int .i64 0]) (fun k => [inboxI b (putIn l k id)]) := by
  refine does_of Tryd.func47 rfl rfl Tryd.ntmps47 rfl (by simp only [enum, Nat.reduceAdd, Nat.zero_add]; exact rfl) (fun c => ?_)
  refine wpC_unfold .head (fun C hC => ?_)
  simp only [List.cons_append, List.nil_append]
  have hcnt := hC.cnt
  have hlen := hC.len
  (refine go ?_; intros)
  (show wpO _ _ ⟨_, .call _, _, _, _, _⟩ _ _ _ _ _ _; refine o_callA (inb_noneRaw b C hC.made) (fun _ _ => ?_); try simp only [List.cons_append, List.nil_append])
  (refine go ?_; intros)
  (show wpO _ _ ⟨_, .call _, _, _, _, _⟩ _ _ _ _ _ _; refine o_callA (inb_findF b C l id hC ho h) (fun k hk => ?_); try simp only [List.cons_append, List.nil_append])
  have hkl := hk.1
  (refine go ?_; intros)
  refine wpC_drawnA [inC b C] 15 ?_
  ((first | refine dt 0 ?_ | refine dts 0 ?_); (first | refine dt 1 ?_ | refine dts 1 ?_); (first | refine dt 2 ?_ | refine dts 2 ?_); (first | refine dt 3 ?_ | refine dts 3 ?_); (first | refine dt 4 ?_ | refine dts 4 ?_))
  refine dtB 5 rfl (ev_arrLo (l := k + 1) 1 rfl rfl rfl rfl rfl (by omega) (by omega)) ?_
  ((first | refine dt 6 ?_ | refine dts 6 ?_); (first | refine dt 7 ?_ | refine dts 7 ?_); (first | refine dt 8 ?_ | refine dts 8 ?_); (first | refine dt 9 ?_ | refine dts 9 ?_); (first | refine df 10 ?_ | refine dfs 10 ?_); (first | refine df 11 ?_ | refine dfs 11 ?_); (first | refine df 12 ?_ | refine dfs 12 ?_); (first | refine df 13 ?_ | refine dfs 13 ?_))
  refine dfB 14 rfl (ev_arrLoHi (l := k) (h := l.length) 1 rfl rfl rfl rfl rfl rfl rfl rfl hkl (by omega)) ?_
  refine wpD_lastV rfl rfl (by decide +kernel) (by decide +kernel) rfl rfl ?_
  refine x_copy (k := l.length - k) rfl rfl rfl rfl rfl .head (by omega) (by unfold cutOff; split <;> omega) (by unfold cutOff; split <;> omega) hC.one ?_
  obtain ⟨C', e', hC'⟩ : ∃ C', C' = moved C (cutOff 0 16 (k + 1) 1) (cutOff 0 16 k 1) (l.length - k) ∧ C' = moved C (k + 1) k (l.length - k) := by
    refine ⟨_, rfl, ?_⟩
    rw [cutOff_lt (show k < 16 by omega)]
    by_cases e : k = 15
    · have : l.length - k = 0 := by omega
      rw [this, moved_zero, moved_zero]
    · rw [cutOff_lt (show k + 1 < 16 by omega)]
      congr 1 <;> omega
  rw [← e']
  have hlen' : C'.length = 18 := by rw [hC', moved_length (by omega) (by omega)]; exact hlen
  have hz : 0 + k * 1 = k := by omega
  have hcnt' : (C'.set (0 + k * 1) (.int .i64 id))[16]? = some (.int .i64 l.length) := by
    rw [hz, List.getElem?_set_ne (by omega), hC', moved_get (by omega) (by omega), if_neg (by omega), if_neg (by omega)]
    exact hcnt
  have hlen2 : (C'.set (0 + k * 1) (.int .i64 id)).length = 18 := by simp [hlen']
  (refine go ?_; intros)
  refine q_ret2 rfl rfl rfl k rfl hk ?_
  refine Ent.fold _ ?_ (by ((try simp only [List.cons_append, List.nil_append]); repeat (first | exact Ent.nil | (apply Ent.cons; repeat (first | exact Pick.head | apply Pick.tail)))))
  rw [hz, hC']
  exact inc_put hC (by omega) hkl
end Go.Proofs.YtaodhkiejnipmaaDoor
