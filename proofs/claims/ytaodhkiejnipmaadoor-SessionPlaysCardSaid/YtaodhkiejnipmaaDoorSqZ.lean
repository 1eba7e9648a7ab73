/-
  The rest of the package inbox; awake.
-/
import Derived.Test.YtaodhkiejnipmaaDoorSqY
set_option linter.unusedSimpArgs false
set_option linter.unusedVariables false
set_option maxRecDepth 20000
namespace Go.Proofs.YtaodhkiejnipmaaDoor
open Go Go.Sx
attribute [local irreducible] MidQ wpE wpO wpC qE wpQ wpQO wpH wpHO wpD wpDO wpZ Ev own emp exI sl ch PostS LoopQ Rd rowsAt

theorem inb_doneNo (b : Nat) (l : List Int) (id : Int) (ho : InOk l) (h : id ∉ l) : FnDoes Tryd.prog 52 [ptr b, .int .i64 id] [inboxI b l] (fun _ : Unit => True) (fun _ => .bool false) (fun _ => [inboxI b l]) := by
  refine does_of Tryd.func52 rfl rfl Tryd.ntmps52 rfl (by simp only [enum, Nat.reduceAdd, Nat.zero_add]; exact rfl) (fun c => ?_)
  refine wpC_unfold .head (fun C hC => ?_)
  simp only [List.cons_append, List.nil_append]
  (refine go ?_; intros)
  (show wpO _ _ ⟨_, .call _, _, _, _, _⟩ _ _ _ _ _ _; refine o_callA (inb_noneRaw b C hC.made) (fun _ _ => ?_); try simp only [List.cons_append, List.nil_append])
  (refine go ?_; intros)
  (show wpO _ _ ⟨_, .call _, _, _, _, _⟩ _ _ _ _ _ _; refine o_callA (inb_findF b C l id hC ho h) (fun k hk => ?_); try simp only [List.cons_append, List.nil_append])
  (refine go ?_; intros)
  refine q_ret1 rfl rfl () rfl trivial ?_
  exact Ent.fold C hC (by ((try simp only [List.cons_append, List.nil_append]); repeat (first | exact Ent.nil | (apply Ent.cons; repeat (first | exact Pick.head | apply Pick.tail)))))
theorem inb_done (b : Nat) (l : List Int) (id : Int) (ho : InOk l) (h : id ∈ l) : FnDoes Tryd.prog 52 [ptr b, .int .i64 id] [inboxI b l] (fun k : Nat => Lb l id k ∧ l[k]? = some id) (fun _ => .bool true) (fun k => [inboxI b (takeOut l k)]) := by
  refine does_of Tryd.func52 rfl rfl Tryd.ntmps52 rfl (by simp only [enum, Nat.reduceAdd, Nat.zero_add]; exact rfl) (fun c => ?_)
  refine wpC_unfold .head (fun C hC => ?_)
  simp only [List.cons_append, List.nil_append]
  have hcnt := hC.cnt
  have hlen := hC.len
  have hl16 := ho.2.1
  (refine go ?_; intros)
  (show wpO _ _ ⟨_, .call _, _, _, _, _⟩ _ _ _ _ _ _; refine o_callA (inb_noneRaw b C hC.made) (fun _ _ => ?_); try simp only [List.cons_append, List.nil_append])
  (refine go ?_; intros)
  (show wpO _ _ ⟨_, .call _, _, _, _, _⟩ _ _ _ _ _ _; refine o_callA (inb_findT b C l id hC ho h) (fun k hk => ?_); try simp only [List.cons_append, List.nil_append])
  have hkl : k < l.length := (List.getElem?_eq_some_iff.1 hk.2).1
  (refine go ?_; intros)
  refine wpC_drawnA [inC b C] 15 ?_
  ((first | refine dt 0 ?_ | refine dts 0 ?_); (first | refine dt 1 ?_ | refine dts 1 ?_); (first | refine dt 2 ?_ | refine dts 2 ?_); (first | refine dt 3 ?_ | refine dts 3 ?_))
  refine dtB 4 rfl (ev_arrLo (l := k) 1 rfl rfl rfl rfl rfl rfl (by omega)) ?_
  ((first | refine dt 5 ?_ | refine dts 5 ?_); (first | refine dt 6 ?_ | refine dts 6 ?_); (first | refine dt 7 ?_ | refine dts 7 ?_); (first | refine dt 8 ?_ | refine dts 8 ?_); (first | refine dt 9 ?_ | refine dts 9 ?_); (first | refine df 10 ?_ | refine dfs 10 ?_); (first | refine df 11 ?_ | refine dfs 11 ?_); (first | refine df 12 ?_ | refine dfs 12 ?_); (first | refine df 13 ?_ | refine dfs 13 ?_))
  refine dfB 14 rfl (ev_arrLoHi (l := k + 1) (h := l.length) 1 rfl rfl rfl rfl rfl rfl (by omega) rfl (by omega) (by omega)) ?_
  refine wpD_lastV rfl rfl (by decide +kernel) (by decide +kernel) rfl rfl ?_
  refine x_copy (k := l.length - (k + 1)) rfl rfl rfl rfl rfl .head (by omega) (by unfold cutOff; split <;> omega) (by unfold cutOff; split <;> omega) hC.one ?_
  obtain ⟨C', e', hC'⟩ : ∃ C', C' = moved C (cutOff 0 16 k 1) (cutOff 0 16 (k + 1) 1) (l.length - (k + 1)) ∧ C' = moved C k (k + 1) (l.length - (k + 1)) := by
    refine ⟨_, rfl, ?_⟩
    rw [cutOff_lt (show k < 16 by omega)]
    by_cases e : k = 15
    · have : l.length - (k + 1) = 0 := by omega
      rw [this, moved_zero, moved_zero]
    · rw [cutOff_lt (show k + 1 < 16 by omega)]
      congr 1 <;> omega
  rw [← e']
  have hlen' : C'.length = 18 := by rw [hC', moved_length (by omega) (by omega)]; exact hlen
  have hcnt' : C'[16]? = some (.int .i64 l.length) := by
    rw [hC', moved_get (by omega) (by omega), if_neg (by omega), if_neg (by omega)]
    exact hcnt
  (refine go ?_; intros)
  refine q_ret1 rfl rfl k rfl hk ?_
  refine Ent.fold _ ?_ (by ((try simp only [List.cons_append, List.nil_append]); repeat (first | exact Ent.nil | (apply Ent.cons; repeat (first | exact Pick.head | apply Pick.tail)))))
  rw [hC', show (l.length : Int) - 1 = ((l.length - 1 : Nat) : Int) by omega]
  exact inc_out hC hl16 hkl
theorem inb_all (b : Nat) (l : List Int) (hl : l.length ≤ 16) : FnDoes Tryd.prog 51 [ptr b] [inboxI b l] (fun _ : Value => True) (fun v => v) (fun v => [inboxI b l, intsI v l]) := by
  refine does_of Tryd.func51 rfl rfl Tryd.ntmps51 rfl (by simp only [enum, Nat.reduceAdd, Nat.zero_add]; exact rfl) (fun c => ?_)
  refine wpC_unfold .head (fun C hC => ?_)
  simp only [List.cons_append, List.nil_append]
  have hcnt := hC.cnt
  (refine go ?_; intros)
  (show wpO _ _ ⟨_, .call _, _, _, _, _⟩ _ _ _ _ _ _; refine o_callA (inb_noneRaw b C hC.made) (fun _ _ => ?_); try simp only [List.cons_append, List.nil_append])
  (refine go ?_; intros)
  refine wpC_drawnA [inC b C] 9 ?_
  ((first | refine dt 0 ?_ | refine dts 0 ?_); (first | refine dt 1 ?_ | refine dts 1 ?_); (first | refine dt 2 ?_ | refine dts 2 ?_); (first | refine df 3 ?_ | refine dfs 3 ?_); (first | refine df 4 ?_ | refine dfs 4 ?_); (first | refine df 5 ?_ | refine dfs 5 ?_); (first | refine df 6 ?_ | refine dfs 6 ?_))
  refine dfB 7 rfl (ev_arrHi (h := l.length) rfl rfl rfl rfl rfl hl) ?_
  (refine dcall 8 (clone_ints (inC b C) (.slice (some ⟨b, 0, none⟩) l.length 16) l (inb_rd hC hl) (by omega)) (fun v _ => ?_); try simp only [List.cons_append, List.nil_append])
  (refine dl ?_)
  (refine go ?_; intros)
  refine q_ret1 rfl rfl v rfl trivial ?_
  exact Ent.fold C hC (by ((try simp only [List.cons_append, List.nil_append]); repeat (first | exact Ent.nil | (apply Ent.cons; repeat (first | exact Pick.head | apply Pick.tail)))))

theorem inOk_nil : InOk [] := ⟨List.Pairwise.nil, by simp, by simp⟩
theorem inOk_put {l : List Int} {k : Nat} {id : Int} (ho : InOk l) (h : Lb l id k) (hn : id ∉ l) (h1 : 1 ≤ id) (h2 : id ≤ 65535) (hl : l.length < 16) : InOk (putIn l k id) := ⟨asc_put ho.1 h hn, by rw [putIn_length h.1]; omega, fun x hx => by
  rcases mem_putIn.1 hx with rfl | hx
  · exact ⟨h1, h2⟩
  · exact ho.2.2 x hx⟩
theorem inOk_out {l : List Int} {k : Nat} (ho : InOk l) (hk : k < l.length) : InOk (takeOut l k) := ⟨asc_out ho.1, by rw [takeOut_length hk]; have := ho.2.1; omega, fun x hx => ho.2.2 x (mem_takeOut hx)⟩

end Go.Proofs.YtaodhkiejnipmaaDoor
