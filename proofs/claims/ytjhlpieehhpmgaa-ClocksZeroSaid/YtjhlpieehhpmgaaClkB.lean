/-
  The pile of entries: Push, Pop; the pile behind heap.Interface.
-/
import Derived.Test.YtjhlpieehhpmgaaClkA
set_option linter.unusedSimpArgs false
set_option linter.unusedVariables false
namespace Go.Proofs.Ytjhlpieehhpmgaa
open Go Go.Sx
theorem entsI_snoc (w : Value) (l : List DE) (e : DE) : sl 64 2 w (l.length + 1) (l.flatMap entC ++ entC e) = entsI w (l ++ [e]) := by simp [entsI]
def entV (e : DE) : Value := .agg (entC e).toArray
attribute [local irreducible] MidQ wpE wpO wpC qE wpQ wpQO wpH wpHO wpD wpDO wpZ Ev own emp exI sl ch PostS LoopQ Rd rowsAt
theorem pile_push (p q : Nat) (l : List DE) (e : DE) (hn : ∀ j, j < l.length → (nth l j).1 ≠ e.1) (hl : l.length ≤ 1000000) : FnDoes Try.prog 51 [ptr p, .iface 64 (entV e)] [pileI p q l] (fun _ : Unit => True) (fun _ => .tuple #[]) (fun _ => [pileI p q (l ++ [e])]) := by
  refine does_of Try.func51 rfl rfl Try.ntmps51 rfl (by simp only [enum, Nat.reduceAdd, Nat.zero_add]; exact rfl) (fun c => ?_)
  refine wpC_unfold .head (fun s W => ?_)
  obtain ⟨v, es⟩ := s
  simp only [List.cons_append, List.nil_append] at W ⊢
  (refine go ?_; intro t)
  refine wpC_drawnA [pileC p v q, entsI v l, entB t e] 11 ?_
  ((first | refine dt 0 ?_ | refine dts 0 ?_); (first | refine dt 1 ?_ | refine dts 1 ?_); (first | refine dt 2 ?_ | refine dts 2 ?_); (first | refine dt 3 ?_ | refine dts 3 ?_); (first | refine dt 4 ?_ | refine dts 4 ?_); (first | refine dt 5 ?_ | refine dts 5 ?_); (first | refine df 6 ?_ | refine dfs 6 ?_); (first | refine df 7 ?_ | refine dfs 7 ?_); (first | refine df 8 ?_ | refine dfs 8 ?_); (first | refine df 9 ?_ | refine dfs 9 ?_); (first | refine df 10 ?_ | refine dfs 10 ?_))
  (refine wpD_lastU rfl rfl (by kernel_rfl) (by kernel_rfl) rfl ?_; show OUL _ ⟨_, .mapUpdate _ _ _ _, _, _, _, _⟩ _ _ _ _ _)
  refine x_mapUpdate (by rfl) (by rfl) (by rfl) (by rfl) (by rfl) (by repeat (first | exact Pick.head | apply Pick.tail)) ?_
  (refine go ?_; intros)
  refine wpC_drawnA [pileC p v q, entB t e] 10 ?_
  ((first | refine dt 0 ?_ | refine dts 0 ?_); (first | refine dt 1 ?_ | refine dts 1 ?_); (first | refine dt 2 ?_ | refine dts 2 ?_); (first | refine dt 3 ?_ | refine dts 3 ?_); (first | refine dt 4 ?_ | refine dts 4 ?_); (first | refine df 5 ?_ | refine dfs 5 ?_))
  (refine wpD_eff 6 rfl rfl (by kernel_rfl) rfl rfl ?_; show OVL _ ⟨_, .buildSlice _ _ _, _, _, _, _⟩ _ _ _ _ _ _)
  refine x_buildSlice1 (l := entC e) (by rfl) (by rfl) (by rfl) (by rfl) (by rfl) (by rfl) (by rfl) (by rfl) (fun b2 => ⟨(by (try simp only [List.cons_append, List.nil_append]); repeat (first | exact Ent.nil | (apply Ent.cons; repeat (first | exact Pick.head | apply Pick.tail)))), ?_⟩)
  (refine wpD_eff 7 rfl rfl (by kernel_rfl) rfl rfl ?_; show OVL _ ⟨_, .call { callee := .builtin .append, args := _, argTypes := _ }, _, _, _, _⟩ _ _ _ _ _ _)
  refine x_append (sz := 2) (news := entC e) (m := 1) (by rfl) (by rfl) (by rfl) (by rfl) (by rfl) (by rfl) (by rfl) (by rfl) (by repeat (first | exact Pick.head | apply Pick.tail)) ?_ ?_ (fun v' => ⟨(by (try simp only [List.cons_append, List.nil_append]); repeat (first | exact Ent.nil | (apply Ent.cons; repeat (first | exact Pick.head | apply Pick.tail)))), ?_⟩)
  · exact src_pts rfl (by repeat (first | exact Pick.head | apply Pick.tail)) rfl rfl rfl
  · show (l.length + 1) * 16 ≤ 140737488355328
    omega
  rw [entsI_snoc]
  ((first | refine df 8 ?_ | refine dfs 8 ?_); (first | refine df 9 ?_ | refine dfs 9 ?_))
  (refine wpD_lastU rfl rfl (by kernel_rfl) (by kernel_rfl) rfl ?_; show OUL _ ⟨_, .store _ _ _, _, _, _, _⟩ _ _ _ _ _)
  refine OUL_know (sl_one (v := v') (by repeat (first | exact Pick.head | apply Pick.tail))) (fun hv' => ?_)
  refine x_store (l' := ?_) (by rfl) (by rfl) (by rfl) (by rfl) hv' (by repeat (first | exact Pick.head | apply Pick.tail)) ?_ ?_
  rotate_left
  (first | exact Upd1.head | exact (Upd1.tail Upd1.head) | exact (Upd1.tail (Upd1.tail Upd1.head)) | exact (Upd1.tail (Upd1.tail (Upd1.tail Upd1.head))) | exact (Upd1.tail (Upd1.tail (Upd1.tail (Upd1.tail Upd1.head)))) | exact (Upd1.tail (Upd1.tail (Upd1.tail (Upd1.tail (Upd1.tail Upd1.head))))) | exact (Upd1.tail (Upd1.tail (Upd1.tail (Upd1.tail (Upd1.tail (Upd1.tail Upd1.head)))))) | exact (Upd1.tail (Upd1.tail (Upd1.tail (Upd1.tail (Upd1.tail (Upd1.tail (Upd1.tail Upd1.head))))))) | exact (Upd1.tail (Upd1.tail (Upd1.tail (Upd1.tail (Upd1.tail (Upd1.tail (Upd1.tail (Upd1.tail Upd1.head)))))))) | exact (Upd1.tail (Upd1.tail (Upd1.tail (Upd1.tail (Upd1.tail (Upd1.tail (Upd1.tail (Upd1.tail (Upd1.tail Upd1.head))))))))))
  (refine go ?_; intros)
  refine q_ret0 rfl () rfl trivial ?_ _ (Or.inr rfl)
  exact Ent.fold (⟨v', mput es e.1 l.length⟩ : PileSt) (W.push hn) (by ((try simp only [List.cons_append, List.nil_append]); repeat (first | exact Ent.nil | (apply Ent.cons; repeat (first | exact Pick.head | apply Pick.tail)))))
theorem pile_pop (p q : Nat) (l : List DE) (n : Nat) (hn : l.length = n + 1) (hl : l.length ≤ 1000000) : FnDoes Try.prog 50 [ptr p] [pileI p q l] (fun _ : Unit => True) (fun _ => .iface 64 (entV (nth l n))) (fun _ => [pileI p q (l.take n)]) := by
  refine does_of Try.func50 rfl rfl Try.ntmps50 rfl (by simp only [enum, Nat.reduceAdd, Nat.zero_add]; exact rfl) (fun c => ?_)
  refine wpC_unfold .head (fun s W => ?_)
  obtain ⟨v, es⟩ := s
  simp only [List.cons_append, List.nil_append] at W ⊢
  refine wpC_sl (.tail .head) (fun _ h _ => by omega) (fun b cap junk e q1 q2 q3 => ?_)
  subst e
  have hi : n < l.length := by omega
  have hci := ent_at (junk := junk) hi
  have e1 : ((l.length : Int) - 1) = (n : Int) := by omega
  (refine go ?_; intros)
  rw [e1]
  (refine go ?_; intros)
  refine o_evB (ev_load_agg rfl rfl rfl rfl (by repeat (first | exact Pick.head | apply Pick.tail)) hci rfl) ?_
  (refine go ?_; intro t)
  refine o_evB (ev_slcHi (h := n) rfl rfl rfl rfl rfl (by omega)) ?_
  (refine go ?_; intros)
  refine wpC_drawnA [pileC p (.slice (some ⟨b, 0, none⟩) n cap) q, entB t (nth l n)] 6 ?_
  ((first | refine dt 0 ?_ | refine dts 0 ?_); (first | refine dt 1 ?_ | refine dts 1 ?_); (first | refine dt 2 ?_ | refine dts 2 ?_); (first | refine dt 3 ?_ | refine dts 3 ?_); (first | refine df 4 ?_ | refine dfs 4 ?_); (first | refine df 5 ?_ | refine dfs 5 ?_))
  refine wpD_lastN rfl rfl (by decide +kernel) (by decide +kernel) rfl ?_
  refine x_delete (by rfl) (by rfl) (by rfl) (by rfl) (by repeat (first | exact Pick.head | apply Pick.tail)) ?_
  (refine go ?_; intros)
  refine q_ret1 rfl rfl () rfl trivial ?_
  have hW := W.pop hn
  have e3 : (l.take n).length = n := by rw [List.length_take]; omega
  have e2 : l.flatMap entC ++ junk = (l.take n).flatMap entC ++ (entC (nth l n) ++ junk) := by
    conv => lhs; rw [← take_last hn]
    rw [fm_snoc, List.append_assoc]
  rw [e2]
  refine Ent.fold (⟨.slice (some ⟨b, 0, none⟩) n cap, mdel es (nth l n).1⟩ : PileSt) hW (Ent.cons (by repeat (first | exact Pick.head | apply Pick.tail)) ?_)
  rw [entsI, e3]
  exact Ent.slClose (by repeat (first | exact Pick.head | apply Pick.tail)) (by rw [fm_length entC_len, e3]) (fm_one entC_one _) (by omega) q2 (by rw [← e2]; exact q3) (by ((try simp only [List.cons_append, List.nil_append]); repeat (first | exact Ent.nil | (apply Ent.cons; repeat (first | exact Pick.head | apply Pick.tail)))))
theorem pileOps (p q : Nat) : HeapOps 52 (ptr p) ltE (pileI p q) where
  len l := InvDoes.direct (pile_len p q l) (by decide +kernel)
  less l i j hi hj := InvDoes.direct (pile_less p q l i j hi hj) (by decide +kernel)
  swap l i j hi hj := InvDoes.direct (pile_swap p q l i j hi hj) (by decide +kernel)
theorem pile_pushInv (p q : Nat) (l : List DE) (e : DE) (hn : ∀ j, j < l.length → (nth l j).1 ≠ e.1) (hl : l.length ≤ 1000000) : InvDoes Try.prog 52 (ptr p) "Push" [.iface 64 (entV e)] [pileI p q l] (fun _ : Unit => True) (fun _ => .tuple #[]) (fun _ => [pileI p q (l ++ [e])]) :=
  InvDoes.direct (pile_push p q l e hn hl) (by decide +kernel)
theorem pile_popInv (p q : Nat) (l : List DE) (n : Nat) (hn : l.length = n + 1) (hl : l.length ≤ 1000000) : InvDoes Try.prog 52 (ptr p) "Pop" [] [pileI p q l] (fun _ : Unit => True) (fun _ => .iface 64 (entV (nth l n))) (fun _ => [pileI p q (l.take n)]) :=
  InvDoes.direct (pile_pop p q l n hn hl) (by decide +kernel)
end Go.Proofs.Ytjhlpieehhpmgaa
