/-
  What comes due: nobody, or the place 0.
  What comes due, where nobody does or the place 0: set, dropped, fired.
  What comes due: fired; the first time that is too late.
-/
import Derived.Test.YtnaabpfpldelmaaGreatDoorM25
set_option linter.unusedSimpArgs false
set_option linter.unusedVariables false
namespace Go.Sx
open Go Go.Conc
theorem one_map {Lm : List MapEntry} (h : Lm.map (fun e => (e.key, e.val)) = [(Value.int .i64 0, Value.int .i64 0)]) : ∃ s, Lm = [⟨.int .i64 0, .int .i64 0, s⟩] := by
  match Lm, h with
  | [⟨k, v, s⟩], h =>
    simp at h
    obtain ⟨rfl, rfl⟩ := h
    exact ⟨s, rfl⟩
end Go.Sx
set_option maxRecDepth 20000
namespace Go.Proofs.YtnaabpfpldelmaaGreatDoor
open Go Go.Sx
abbrev tEn : TypeId := 166
abbrev tPil : TypeId := 102
abbrev ckI (u p : Nat) : HProp := pts u (.cells [pt0 p].toArray 108 (0, 0))
abbrev plI (p q : Nat) (v : Value) : HProp := pts p (.cells [v, .map (some q)].toArray 106 (0, 0))
abbrev enC (d : Nat) : List Value := [nat64 0, nat64 d]
abbrev enI (v : Value) (d : Nat) : HProp := sl tEn 2 v 1 (enC d)
abbrev one0 : List (Int × Int) := [(0, 0)]
abbrev plL (p q : Nat) (v : Value) (d : Nat) : List HProp := [plI p q v, enI v d, mapI q one0]
attribute [local irreducible] MidQ wpE wpO wpC qE wpQ wpQO wpH wpHO wpD wpDO wpZ Ev own emp exI sl ch PostS LoopQ Rd rowsAt
theorem cl_new : FnDoes Tryz.prog 16 [] [] (fun _ : Nat × Nat × Nat => True) (fun y => pt0 y.1) (fun y => [ckI y.1 y.2.1, plI y.2.1 y.2.2 (.slice none 0 0), mapI y.2.2 []]) := by
  refine does_of Tryz.func16 rfl rfl Tryz.ntmps16 rfl eNUM (fun c => ?_)
  (refine go ?_; intros)
  refine o_makeMap rfl (fun q => ?_)
  (refine go ?_; intro p u)
  exact q_ret1 rfl rfl (u, p, q) rfl trivial eNT
theorem cl_none (u p : Nat) : FnDoes Tryz.prog 77 [pt0 u] [ckI u p] (fun _ : Unit => True) (fun _ => .bool false) (fun _ => [ckI u p]) := by
  refine does_of Tryz.func77 rfl rfl Tryz.ntmps77 rfl eNUM (fun c => ?_)
  (refine go ?_; intros)
  exact q_ret1 rfl rfl () rfl trivial eNT
theorem pi_len (p q d : Nat) (v : Value) : FnDoes Tryz.prog 583 [pt0 p] (plL p q v d) (fun _ : Unit => True) (fun _ => nat64 1) (fun _ => plL p q v d) := by
  refine does_of Tryz.func583 rfl rfl Tryz.ntmps583 rfl eNUM (fun c => ?_)
  (refine go ?_; intros)
  exact q_ret1 rfl rfl () rfl trivial eNT
set_option maxHeartbeats 2000000 in
theorem pi_push (p q d : Nat) : FnDoes Tryz.prog 586 [pt0 p, .iface tEn (.agg (enC d).toArray)] [plI p q (.slice none 0 0), mapI q []] (fun _ : Value => True) (fun _ => .tuple #[]) (fun v => plL p q v d) := by
  refine does_of Tryz.func586 rfl rfl Tryz.ntmps586 rfl eNUM (fun c => ?_)
  (refine go ?_; intro c4)
  refine wpC_drawnA [pts c4 (.cells (enC d).toArray tEn (0, 0)), plI p q (.slice none 0 0)] 11 ?_
  ((first | refine dt 0 ?_ | refine dts 0 ?_); (first | refine dt 1 ?_ | refine dts 1 ?_); (first | refine dt 2 ?_ | refine dts 2 ?_); (first | refine dt 3 ?_ | refine dts 3 ?_); (first | refine dt 4 ?_ | refine dts 4 ?_); (first | refine dt 5 ?_ | refine dts 5 ?_); (first | refine df 6 ?_ | refine dfs 6 ?_); (first | refine df 7 ?_ | refine dfs 7 ?_); (first | refine df 8 ?_ | refine dfs 8 ?_); (first | refine df 9 ?_ | refine dfs 9 ?_); (first | refine df 10 ?_ | refine dfs 10 ?_))
  (refine wpD_lastU rfl rfl (by kernel_rfl) (by kernel_rfl) rfl ?_; show OUL _ ⟨_, .mapUpdate _ _ _ _, _, _, _, _⟩ _ _ _ _ _)
  refine x_mapUpdate (by rfl) (by rfl) (by rfl) (by rfl) (by rfl) pK ?_
  (refine go ?_; intros)
  refine wpC_ent (Ent.slNil (e := tEn) (size := 2) (Ent.refl _)) ?_
  refine wpC_drawnA [pts c4 (.cells (enC d).toArray tEn (0, 0)), plI p q (.slice none 0 0)] 10 ?_
  ((first | refine dt 0 ?_ | refine dts 0 ?_); (first | refine dt 1 ?_ | refine dts 1 ?_); (first | refine dt 2 ?_ | refine dts 2 ?_); (first | refine dt 3 ?_ | refine dts 3 ?_); (first | refine dt 4 ?_ | refine dts 4 ?_); (first | refine df 5 ?_ | refine dfs 5 ?_))
  (refine wpD_eff 6 rfl rfl (by kernel_rfl) rfl rfl ?_; show OVL _ ⟨_, .buildSlice _ _ _, _, _, _, _⟩ _ _ _ _ _ _)
  refine x_buildSlice1 (by rfl) (by rfl) (by rfl) (by rfl) (by rfl) (by rfl) (by rfl) (by rfl) (fun bb => ⟨eNT, ?_⟩)
  (refine wpD_eff 7 rfl rfl (by kernel_rfl) rfl rfl ?_; show OVL _ ⟨_, .call { callee := .builtin .append, args := _, argTypes := _ }, _, _, _, _⟩ _ _ _ _ _ _)
  refine x_append (m := 1) (news := enC d) (sz := 2) (by rfl) (by rfl) (by rfl) (by rfl) (by rfl) (by rfl) (by rfl) (by rfl) pK (src_pts rfl pK rfl rfl rfl) (by decide +kernel) (fun v' => ⟨eNT, ?_⟩)
  refine wpD_fact (sl_one (v := v') .head) (fun o3 => ?_)
  ((first | refine df 8 ?_ | refine dfs 8 ?_); (first | refine df 9 ?_ | refine dfs 9 ?_))
  (refine wpD_lastU rfl rfl (by kernel_rfl) (by kernel_rfl) rfl ?_; show OUL _ ⟨_, .store _ _ _, _, _, _, _⟩ _ _ _ _ _)
  refine x_store (by rfl) (by rfl) (by rfl) (by rfl) o3 pK (Upd1.of (by simp)) ?_
  (refine go ?_; intros)
  exact q_ret0 rfl v' rfl trivial eNT _ (.inr rfl)
set_option maxHeartbeats 2000000 in
theorem pi_pop (p q d : Nat) (v : Value) : FnDoes Tryz.prog 585 [pt0 p] (plL p q v d) (fun _ : Option Addr × Nat => True) (fun _ => .iface tEn (.agg (enC d).toArray)) (fun y => [plI p q (.slice y.1 0 y.2), mapI q []]) := by
  refine does_of Tryz.func585 rfl rfl Tryz.ntmps585 rfl eNUM (fun c => ?_)
  refine wpC_sl (.tail .head) (fun _ h _ => by omega) (fun b cap junk e q1 q2 q3 => ?_)
  subst e
  (refine go ?_; intro c4)
  refine o_evB (ev_slcHi (h := 0) rfl rfl rfl rfl rfl (by omega)) ?_
  (refine go ?_; intros)
  refine wpC_drawnA [pts c4 (.cells (enC d).toArray tEn (0, 0)), plI p q (.slice (some ⟨b, 0, none⟩) 0 cap)] 6 ?_
  ((first | refine dt 0 ?_ | refine dts 0 ?_); (first | refine dt 1 ?_ | refine dts 1 ?_); (first | refine dt 2 ?_ | refine dts 2 ?_); (first | refine dt 3 ?_ | refine dts 3 ?_); (first | refine df 4 ?_ | refine dfs 4 ?_); (first | refine df 5 ?_ | refine dfs 5 ?_))
  refine wpD_lastN rfl rfl (by decide +kernel) (by decide +kernel) rfl ?_
  refine x_delete (by rfl) (by rfl) (by rfl) (by rfl) pK ?_
  (refine go ?_; intros)
  exact q_ret1 rfl rfl (some ⟨b, 0, none⟩, cap) rfl trivial eNT
set_option maxHeartbeats 4000000 in
theorem pi_swap (p q d : Nat) (v : Value) : FnDoes Tryz.prog 587 [pt0 p, nat64 0, nat64 0] (plL p q v d) (fun _ : Unit => True) (fun _ => .tuple #[]) (fun _ => plL p q v d) := by
  refine does_of Tryz.func587 rfl rfl Tryz.ntmps587 rfl eNUM (fun c => ?_)
  refine wpC_sl (.tail .head) (fun _ h _ => by omega) (fun b cap junk e q1 q2 q3 => ?_)
  subst e
  (refine go ?_; intros)
  refine wpC_drawnT ?_
  (refine zt 9 ?_)
  refine wpZ_D [plI p q (.slice (some ⟨b, 0, none⟩) 1 cap), pts b (.cells (enC d ++ junk).toArray tEn (0, 0))] 25 3 24 ?_
  ((first | refine dt 0 ?_ | refine dts 0 ?_); (first | refine dt 1 ?_ | refine dts 1 ?_); (first | refine dt 2 ?_ | refine dts 2 ?_); (first | refine dt 3 ?_ | refine dts 3 ?_); (first | refine dt 4 ?_ | refine dts 4 ?_); (first | refine dt 5 ?_ | refine dts 5 ?_); (first | refine dt 6 ?_ | refine dts 6 ?_); (first | refine dt 7 ?_ | refine dts 7 ?_); (first | refine dt 8 ?_ | refine dts 8 ?_); (first | refine dt 10 ?_ | refine dts 10 ?_); (first | refine dt 11 ?_ | refine dts 11 ?_); (first | refine dt 12 ?_ | refine dts 12 ?_); (first | refine dt 13 ?_ | refine dts 13 ?_); (first | refine dt 14 ?_ | refine dts 14 ?_); (first | refine dt 15 ?_ | refine dts 15 ?_))
  refine dtB 16 rfl (ev_load_agg rfl rfl rfl rfl pK (vs := enC d) rfl rfl) ?_
  ((first | refine dt 17 ?_ | refine dts 17 ?_); (first | refine dt 18 ?_ | refine dts 18 ?_); (first | refine dt 19 ?_ | refine dts 19 ?_); (first | refine dt 20 ?_ | refine dts 20 ?_); (first | refine df 21 ?_ | refine dfs 21 ?_); (first | refine df 22 ?_ | refine dfs 22 ?_))
  refine dfB 23 rfl (ev_load_agg rfl rfl rfl rfl pK (vs := enC d) rfl rfl) ?_
  ((first | refine df 24 ?_ | refine dfs 24 ?_))
  refine dz ?_
  (refine wpZ_unit 25 rfl rfl (by decide +kernel) rfl ?_; show OUL _ ⟨_, .store _ _ _, _, _, _, _⟩ _ _ _ _ _)
  refine x_storeP (l' := enC d ++ junk) (vs := enC d) (by rfl) (by rfl) (by rfl) (by rfl) (by rfl) (by rfl) pK (by simp) rfl ?_
  (refine zf 26 ?_)
  (refine wpZ_unit 27 rfl rfl (by decide +kernel) rfl ?_; show OUL _ ⟨_, .store _ _ _, _, _, _, _⟩ _ _ _ _ _)
  refine x_storeP (l' := enC d ++ junk) (vs := enC d) (by rfl) (by rfl) (by rfl) (by rfl) (by rfl) (by rfl) pK (by simp) rfl ?_
  refine zend ?_
  (refine go ?_; intros)
  refine wpC_map pK (fun Lm ck hlm hB => ?_)
  obtain ⟨s, rfl⟩ := one_map hlm
  refine wpC_drawnT ?_
  (refine zt 24 ?_; refine zt 25 ?_)
  refine wpZ_D [plI p q (.slice (some ⟨b, 0, none⟩) 1 cap), pts b (.cells (enC d ++ junk).toArray tEn (0, 0))] 26 6 24 ?_
  ((first | refine dt 0 ?_ | refine dts 0 ?_); (first | refine dt 1 ?_ | refine dts 1 ?_); (first | refine dt 2 ?_ | refine dts 2 ?_); (first | refine dt 3 ?_ | refine dts 3 ?_); (first | refine dt 4 ?_ | refine dts 4 ?_); (first | refine dt 5 ?_ | refine dts 5 ?_); (first | refine dt 6 ?_ | refine dts 6 ?_); (first | refine dt 7 ?_ | refine dts 7 ?_); (first | refine dt 8 ?_ | refine dts 8 ?_); (first | refine dt 9 ?_ | refine dts 9 ?_); (first | refine dt 10 ?_ | refine dts 10 ?_); (first | refine dt 11 ?_ | refine dts 11 ?_); (first | refine dt 12 ?_ | refine dts 12 ?_); (first | refine dt 13 ?_ | refine dts 13 ?_); (first | refine dt 14 ?_ | refine dts 14 ?_); (first | refine dt 15 ?_ | refine dts 15 ?_); (first | refine dt 16 ?_ | refine dts 16 ?_); (first | refine dt 17 ?_ | refine dts 17 ?_); (first | refine dt 18 ?_ | refine dts 18 ?_); (first | refine dt 19 ?_ | refine dts 19 ?_); (first | refine dt 20 ?_ | refine dts 20 ?_); (first | refine dt 21 ?_ | refine dts 21 ?_); (first | refine dt 22 ?_ | refine dts 22 ?_); (first | refine df 23 ?_ | refine dfs 23 ?_))
  refine dz ?_
  (refine wpZ_val 26 rfl rfl (by decide +kernel) rfl rfl ?_; show OVL _ ⟨_, .mapEntry _ _ _, _, _, _, _⟩ _ _ _ _ _ _)
  refine x_mapEntry (es := one0) (j := 0) (u := 0) (s' := s) (by rfl) (by rfl) (by rfl) (by rfl) pK hlm rfl rfl ?_
  (refine zf 27 ?_)
  (refine wpZ_unit 28 rfl rfl (by decide +kernel) rfl ?_; show OUL _ ⟨_, .entryStore _ _ _ _, _, _, _, _⟩ _ _ _ _ _)
  refine x_entryStore (j := 0) (by rfl) (by rfl) (by rfl) pK hB.1 rfl ?_
  (refine wpZ_val 29 rfl rfl (by decide +kernel) rfl rfl ?_; show OVL _ ⟨_, .mapEntry _ _ _, _, _, _, _⟩ _ _ _ _ _ _)
  refine x_mapEntry (es := one0) (j := 0) (u := 0) (s' := s) (by rfl) (by rfl) (by rfl) (by rfl) pK hlm rfl rfl ?_
  (refine zf 30 ?_)
  (refine wpZ_unit 31 rfl rfl (by decide +kernel) rfl ?_; show OUL _ ⟨_, .entryStore _ _ _ _, _, _, _, _⟩ _ _ _ _ _)
  refine x_entryStore (j := 0) (by rfl) (by rfl) (by rfl) pK hB.1 rfl ?_
  refine zend ?_
  (refine go ?_; intros)
  refine q_ret0 rfl () rfl trivial ?_ _ (Or.inr rfl)
  refine Ent.cons pK (Ent.slClose (xs := enC d) (junk := junk) pK rfl rfl q1 q2 q3 ?_)
  exact Ent.trans (Ent.mapI hlm hB) (Ent.cons .head Ent.nil)
end Go.Proofs.YtnaabpfpldelmaaGreatDoor
set_option linter.unusedSimpArgs false
set_option linter.unusedVariables false
set_option maxRecDepth 20000
namespace Go.Proofs.YtnaabpfpldelmaaGreatDoor
open Go Go.Sx
abbrev pilV (p : Nat) : Value := .iface tPil (pt0 p)
abbrev enV (d : Nat) : Value := .iface tEn (.agg (enC d).toArray)
attribute [local irreducible] MidQ wpE wpO wpC qE wpQ wpQO wpH wpHO wpD wpDO wpZ Ev own emp exI sl ch PostS LoopQ Rd rowsAt
theorem iv_len (p q d : Nat) (v : Value) : InvDoes Tryz.prog tPil (pt0 p) "Len" [] (plL p q v d) (fun _ : Unit => True) (fun _ => nat64 1) (fun _ => plL p q v d) := InvDoes.direct (pi_len p q d v) (by decide +kernel)
theorem iv_swap (p q d : Nat) (v : Value) : InvDoes Tryz.prog tPil (pt0 p) "Swap" [nat64 0, nat64 0] (plL p q v d) (fun _ : Unit => True) (fun _ => .tuple #[]) (fun _ => plL p q v d) := InvDoes.direct (pi_swap p q d v) (by decide +kernel)
theorem iv_push (p q d : Nat) : InvDoes Tryz.prog tPil (pt0 p) "Push" [enV d] [plI p q (.slice none 0 0), mapI q []] (fun _ : Value => True) (fun _ => .tuple #[]) (fun v => plL p q v d) := InvDoes.direct (pi_push p q d) (by decide +kernel)
theorem iv_pop (p q d : Nat) (v : Value) : InvDoes Tryz.prog tPil (pt0 p) "Pop" [] (plL p q v d) (fun _ : Option Addr × Nat => True) (fun _ => enV d) (fun y => [plI p q (.slice y.1 0 y.2), mapI q []]) := InvDoes.direct (pi_pop p q d v) (by decide +kernel)
theorem hq_up (p : Nat) : FnDoes Tryz.prog 116 [pilV p, nat64 0] [] (fun _ : Unit => True) (fun _ => .tuple #[]) (fun _ => []) := by
  refine does_of Tryz.func116 rfl rfl Tryz.ntmps116 rfl eNUM (fun c => ?_)
  (refine go ?_; intros)
  refine wpC_loop (σ := Unit) (fun _ => True) (fun _ => [(0, pilV p), (1, nat64 0)]) (fun _ => []) (fun _ => 0) () trivial sUB eNT (fun _ _ => ?_)
  (refine go ?_; intros)
  refine o_evB (ev_quoM rfl rfl) ?_
  (refine go ?_; intros)
  exact q_ret0 rfl () rfl trivial eNT _ (.inr rfl)
theorem hq_down (p n : Nat) (hn : n ≤ 1) : FnDoes Tryz.prog 78 [pilV p, nat64 0, nat64 n] [] (fun _ : Unit => True) (fun _ => .bool false) (fun _ => []) := by
  refine does_of Tryz.func78 rfl rfl Tryz.ntmps78 rfl eNUM (fun c => ?_)
  (refine go ?_; intros)
  refine wpC_loop (σ := Unit) (fun _ => True) (fun _ => [(0, pilV p), (1, nat64 0), (2, nat64 n), (7, nat64 0)]) (fun _ => []) (fun _ => 0) () trivial sUB eNT (fun _ _ => ?_)
  (refine go ?_; intros)
  exact q_ret1 rfl rfl () rfl trivial eNT
theorem hq_push (p q d : Nat) : FnDoes Tryz.prog 126 [pilV p, enV d] [plI p q (.slice none 0 0), mapI q []] (fun _ : Value => True) (fun _ => .tuple #[]) (fun v => plL p q v d) := by
  have h1 := iv_push p q d
  have h2 := fun v => iv_len p q d v
  have h3 := hq_up p
  refine does_of Tryz.func126 rfl rfl Tryz.ntmps126 rfl eNUM (fun c => ?_)
  (refine go ?_; intros)
  (show wpO _ _ ⟨_, .call _, _, _, _, _⟩ _ _ _ _ _ _; refine o_invokeI (h1) (fun v _ => ?_); try simp only [List.cons_append, List.nil_append])
  (refine go ?_; intros)
  (show wpO _ _ ⟨_, .call _, _, _, _, _⟩ _ _ _ _ _ _; refine o_invokeI (h2 v) (fun _ _ => ?_); try simp only [List.cons_append, List.nil_append])
  (refine go ?_; intros)
  (show wpO _ _ ⟨_, .call _, _, _, _, _⟩ _ _ _ _ _ _; refine o_callA (h3) (fun _ _ => ?_); try simp only [List.cons_append, List.nil_append])
  (refine go ?_; intros)
  exact q_ret0 rfl v rfl trivial eNT _ (.inr rfl)
theorem hq_pop (p q d : Nat) (v : Value) : FnDoes Tryz.prog 61 [pilV p] (plL p q v d) (fun _ : Option Addr × Nat => True) (fun _ => enV d) (fun y => [plI p q (.slice y.1 0 y.2), mapI q []]) := by
  have h1 := iv_len p q d v
  have h2 := iv_swap p q d v
  have h3 := hq_down p 0 (by omega)
  have h4 := iv_pop p q d v
  refine does_of Tryz.func61 rfl rfl Tryz.ntmps61 rfl eNUM (fun c => ?_)
  (refine go ?_; intros)
  (show wpO _ _ ⟨_, .call _, _, _, _, _⟩ _ _ _ _ _ _; refine o_invokeI (h1) (fun _ _ => ?_); try simp only [List.cons_append, List.nil_append])
  (refine go ?_; intros)
  (show wpO _ _ ⟨_, .call _, _, _, _, _⟩ _ _ _ _ _ _; refine o_invokeI (h2) (fun _ _ => ?_); try simp only [List.cons_append, List.nil_append])
  (refine go ?_; intros)
  (show wpO _ _ ⟨_, .call _, _, _, _, _⟩ _ _ _ _ _ _; refine o_callA (h3) (fun _ _ => ?_); try simp only [List.cons_append, List.nil_append])
  (refine go ?_; intros)
  (show wpO _ _ ⟨_, .call _, _, _, _, _⟩ _ _ _ _ _ _; refine o_invokeI (h4) (fun y _ => ?_); try simp only [List.cons_append, List.nil_append])
  (refine go ?_; intros)
  exact q_ret1 rfl rfl y rfl trivial eNT
theorem hq_remove (p q d : Nat) (v : Value) : FnDoes Tryz.prog 83 [pilV p, nat64 0] (plL p q v d) (fun _ : Option Addr × Nat => True) (fun _ => enV d) (fun y => [plI p q (.slice y.1 0 y.2), mapI q []]) := by
  have h1 := iv_len p q d v
  have h4 := iv_pop p q d v
  refine does_of Tryz.func83 rfl rfl Tryz.ntmps83 rfl eNUM (fun c => ?_)
  (refine go ?_; intros)
  (show wpO _ _ ⟨_, .call _, _, _, _, _⟩ _ _ _ _ _ _; refine o_invokeI (h1) (fun _ _ => ?_); try simp only [List.cons_append, List.nil_append])
  (refine go ?_; intros)
  (show wpO _ _ ⟨_, .call _, _, _, _, _⟩ _ _ _ _ _ _; refine o_invokeI (h4) (fun y _ => ?_); try simp only [List.cons_append, List.nil_append])
  (refine go ?_; intros)
  exact q_ret1 rfl rfl y rfl trivial eNT
theorem hq_fix (p q d : Nat) (v : Value) : FnDoes Tryz.prog 127 [pilV p, nat64 0] (plL p q v d) (fun _ : Unit => True) (fun _ => .tuple #[]) (fun _ => plL p q v d) := by
  have h1 := iv_len p q d v
  have h3 := hq_down p 1 (by omega)
  have h4 := hq_up p
  refine does_of Tryz.func127 rfl rfl Tryz.ntmps127 rfl eNUM (fun c => ?_)
  (refine go ?_; intros)
  (show wpO _ _ ⟨_, .call _, _, _, _, _⟩ _ _ _ _ _ _; refine o_invokeI (h1) (fun _ _ => ?_); try simp only [List.cons_append, List.nil_append])
  (refine go ?_; intros)
  (show wpO _ _ ⟨_, .call _, _, _, _, _⟩ _ _ _ _ _ _; refine o_callA (h3) (fun _ _ => ?_); try simp only [List.cons_append, List.nil_append])
  (refine go ?_; intros)
  (show wpO _ _ ⟨_, .call _, _, _, _, _⟩ _ _ _ _ _ _; refine o_callA (h4) (fun _ _ => ?_); try simp only [List.cons_append, List.nil_append])
  (refine go ?_; intros)
  exact q_ret0 rfl () rfl trivial eNT _ (.inr rfl)
set_option maxHeartbeats 1000000 in
theorem cl_set0 (u p q d : Nat) : FnDoes Tryz.prog 91 [pt0 u, nat64 0, nat64 d] [ckI u p, plI p q (.slice none 0 0), mapI q []] (fun _ : Value => True) (fun _ => nat64 0) (fun v => ckI u p :: plL p q v d) := by
  have hn := cl_none u p
  have hp := hq_push p q d
  refine does_of Tryz.func91 rfl rfl Tryz.ntmps91 rfl eNUM (fun c => ?_)
  (refine go ?_; intros)
  (show wpO _ _ ⟨_, .call _, _, _, _, _⟩ _ _ _ _ _ _; refine o_callA (hn) (fun _ _ => ?_); try simp only [List.cons_append, List.nil_append])
  (refine go ?_; intros)
  refine o_evB (ev_lookupOk (b := q) (es := []) (k := 0) rfl rfl rfl rfl rfl rfl pK) ?_
  simp only [show mget [] 0 = none from rfl, Option.getD_none, Option.isSome_none]
  (refine go ?_; intros)
  (show wpO _ _ ⟨_, .call _, _, _, _, _⟩ _ _ _ _ _ _; refine o_callA (hp) (fun v _ => ?_); try simp only [List.cons_append, List.nil_append])
  (refine go ?_; intros)
  exact q_ret1 rfl rfl v rfl trivial eNT
set_option maxHeartbeats 1000000 in
theorem cl_set1 (u p q d d' : Nat) (v : Value) : FnDoes Tryz.prog 91 [pt0 u, nat64 0, nat64 d'] (ckI u p :: plL p q v d) (fun _ : Unit => True) (fun _ => nat64 0) (fun _ => ckI u p :: plL p q v d') := by
  have hn := cl_none u p
  have hp := hq_fix p q d' v
  refine does_of Tryz.func91 rfl rfl Tryz.ntmps91 rfl eNUM (fun c => ?_)
  refine wpC_sl (.tail (.tail .head)) (fun _ h _ => by omega) (fun b cap junk e q1 q2 q3 => ?_)
  subst e
  (refine go ?_; intros)
  (show wpO _ _ ⟨_, .call _, _, _, _, _⟩ _ _ _ _ _ _; refine o_callA (hn) (fun _ _ => ?_); try simp only [List.cons_append, List.nil_append])
  (refine go ?_; intros)
  refine o_evB (ev_lookupOk (b := q) (es := one0) (k := 0) rfl rfl rfl rfl rfl rfl pK) ?_
  simp only [show mget one0 0 = some 0 from rfl, Option.getD_some, Option.isSome_some]
  (refine go ?_; intros)
  refine o_evB (ev_indexS 2 (i := 0) rfl rfl rfl rfl rfl rfl (by omega)) ?_
  (refine go ?_; intros)
  refine wpO_ent (Ent.slClose (xs := enC d') (junk := junk) pK rfl rfl q1 q2 q3 (Ent.refl _)) ?_
  (show wpO _ _ ⟨_, .call _, _, _, _, _⟩ _ _ _ _ _ _; refine o_callA (hp) (fun _ _ => ?_); try simp only [List.cons_append, List.nil_append])
  (refine go ?_; intros)
  exact q_ret1 rfl rfl () rfl trivial eNT
theorem cl_drop0 (u p q : Nat) (v : Value) (hv : v.oneCell' = true) : FnDoes Tryz.prog 67 [pt0 u, nat64 0] [ckI u p, plI p q v, mapI q []] (fun _ : Unit => True) (fun _ => .bool false) (fun _ => [ckI u p, plI p q v, mapI q []]) := by
  have hn := cl_none u p
  refine does_of Tryz.func67 rfl rfl Tryz.ntmps67 rfl eNUM (fun c => ?_)
  (refine go ?_; intros)
  (show wpO _ _ ⟨_, .call _, _, _, _, _⟩ _ _ _ _ _ _; refine o_callA (hn) (fun _ _ => ?_); try simp only [List.cons_append, List.nil_append])
  (refine go ?_; intros)
  refine o_evB (ev_lookupOk (b := q) (es := []) (k := 0) rfl rfl rfl rfl rfl rfl pK) ?_
  simp only [show mget [] 0 = none from rfl, Option.getD_none, Option.isSome_none]
  (refine go ?_; intros)
  exact q_ret1 rfl rfl () rfl trivial eNT
theorem cl_drop1 (u p q d : Nat) (v : Value) : FnDoes Tryz.prog 67 [pt0 u, nat64 0] (ckI u p :: plL p q v d) (fun _ : Option Addr × Nat => True) (fun _ => .bool true) (fun y => [ckI u p, plI p q (.slice y.1 0 y.2), mapI q []]) := by
  have hn := cl_none u p
  have hr := hq_remove p q d v
  refine does_of Tryz.func67 rfl rfl Tryz.ntmps67 rfl eNUM (fun c => ?_)
  (refine go ?_; intros)
  (show wpO _ _ ⟨_, .call _, _, _, _, _⟩ _ _ _ _ _ _; refine o_callA (hn) (fun _ _ => ?_); try simp only [List.cons_append, List.nil_append])
  (refine go ?_; intros)
  refine o_evB (ev_lookupOk (b := q) (es := one0) (k := 0) rfl rfl rfl rfl rfl rfl pK) ?_
  simp only [show mget one0 0 = some 0 from rfl, Option.getD_some, Option.isSome_some]
  (refine go ?_; intros)
  (show wpO _ _ ⟨_, .call _, _, _, _, _⟩ _ _ _ _ _ _; refine o_callA (hr) (fun y _ => ?_); try simp only [List.cons_append, List.nil_append])
  (refine go ?_; intros)
  exact q_ret1 rfl rfl y rfl trivial eNT
theorem cl_next0 (u p q cap : Nat) (a : Option Addr) : FnDoes Tryz.prog 60 [pt0 u] [ckI u p, plI p q (.slice a 0 cap)] (fun _ : Unit => True) (fun _ => .tuple #[nat64 0, .bool false]) (fun _ => [ckI u p, plI p q (.slice a 0 cap)]) := by
  have hn := cl_none u p
  refine does_of Tryz.func60 rfl rfl Tryz.ntmps60 rfl eNUM (fun c => ?_)
  (refine go ?_; intros)
  (show wpO _ _ ⟨_, .call _, _, _, _, _⟩ _ _ _ _ _ _; refine o_callA (hn) (fun _ _ => ?_); try simp only [List.cons_append, List.nil_append])
  (refine go ?_; intros)
  exact q_ret2 rfl rfl rfl () rfl trivial eNT
theorem cl_next1 (u p q d : Nat) (v : Value) : FnDoes Tryz.prog 60 [pt0 u] (ckI u p :: plL p q v d) (fun _ : Unit => True) (fun _ => .tuple #[nat64 d, .bool true]) (fun _ => ckI u p :: plL p q v d) := by
  have hn := cl_none u p
  refine does_of Tryz.func60 rfl rfl Tryz.ntmps60 rfl eNUM (fun c => ?_)
  refine wpC_sl (.tail (.tail .head)) (fun _ h _ => by omega) (fun b cap junk e q1 q2 q3 => ?_)
  subst e
  (refine go ?_; intros)
  (show wpO _ _ ⟨_, .call _, _, _, _, _⟩ _ _ _ _ _ _; refine o_callA (hn) (fun _ _ => ?_); try simp only [List.cons_append, List.nil_append])
  (refine go ?_; intros)
  refine o_evB (ev_indexS 2 (i := 0) rfl rfl rfl rfl rfl rfl (by omega)) ?_
  (refine go ?_; intros)
  refine q_ret2 rfl rfl rfl () rfl trivial ?_
  exact Ent.cons pK (Ent.cons pK (Ent.slClose (xs := enC d) (junk := junk) pK rfl rfl q1 q2 q3 eNT))
end Go.Proofs.YtnaabpfpldelmaaGreatDoor
set_option linter.unusedSimpArgs false
set_option linter.unusedVariables false
set_option maxRecDepth 20000
namespace Go.Proofs.YtnaabpfpldelmaaGreatDoor
open Go Go.Sx
attribute [local irreducible] MidQ wpE wpO wpC qE wpQ wpQO wpH wpHO wpD wpDO wpZ Ev own emp exI sl ch PostS LoopQ Rd rowsAt
theorem cl_late (l k : Nat) (hl : l ≤ 2000000000) (hk : k ≤ 65536) : FnDoes Tryz.prog 92 [nat64 l, nat64 k] [] (fun _ : Unit => True) (fun _ => nat64 (l + k + k / 2 + 1)) (fun _ => []) := by
  refine does_of Tryz.func92 rfl rfl Tryz.ntmps92 rfl eNUM (fun c => ?_)
  (refine go ?_; intros)
  refine o_evB (ev_max (r := (l : Int)) rfl rfl (by omega)) ?_
  (refine go ?_; intros)
  refine o_evB (ev_max (r := (k : Int)) rfl rfl (by omega)) ?_
  (refine go ?_; intros)
  exact q_ret1 rfl rfl () (by first | rfl | (simp only [nat64]; congr 1; omega)) trivial eNT
theorem cl_fire0 (u p q cap now : Nat) (a : Option Addr) : FnDoes Tryz.prog 43 [pt0 u, nat64 now] [ckI u p, plI p q (.slice a 0 cap), mapI q []] (fun _ : Unit => True) (fun _ => .slice none 0 0) (fun _ => [ckI u p, plI p q (.slice a 0 cap), mapI q []]) := by
  have hn := cl_next0 u p q cap a
  refine does_of Tryz.func43 rfl rfl Tryz.ntmps43 rfl eNUM (fun c => ?_)
  (refine go ?_; intros)
  refine wpC_loop (σ := Unit) (fun _ => True) (fun _ => [(0, pt0 u), (1, nat64 now), (5, .slice none 0 0)]) (fun _ => [ckI u p, plI p q (.slice a 0 cap), mapI q []]) (fun _ => 0) () trivial sUB eNT (fun _ _ => ?_)
  (refine go ?_; intros)
  (show wpO _ _ ⟨_, .call _, _, _, _, _⟩ _ _ _ _ _ _; refine o_callA (hn) (fun _ _ => ?_); try simp only [List.cons_append, List.nil_append])
  (refine go ?_; intros)
  exact q_ret1 rfl rfl () rfl trivial eNT
theorem cl_fire1 (u p q d now : Nat) (v : Value) (hd : now < d) : FnDoes Tryz.prog 43 [pt0 u, nat64 now] (ckI u p :: plL p q v d) (fun _ : Unit => True) (fun _ => .slice none 0 0) (fun _ => ckI u p :: plL p q v d) := by
  have hn := cl_next1 u p q d v
  refine does_of Tryz.func43 rfl rfl Tryz.ntmps43 rfl eNUM (fun c => ?_)
  (refine go ?_; intros)
  refine wpC_loop (σ := Unit) (fun _ => True) (fun _ => [(0, pt0 u), (1, nat64 now), (5, .slice none 0 0)]) (fun _ => ckI u p :: plL p q v d) (fun _ => 0) () trivial sUB eNT (fun _ _ => ?_)
  (refine go ?_; intros)
  (show wpO _ _ ⟨_, .call _, _, _, _, _⟩ _ _ _ _ _ _; refine o_callA (hn) (fun _ _ => ?_); try simp only [List.cons_append, List.nil_append])
  (refine go ?_; intros)
  exact q_ret1 rfl rfl () rfl trivial eNT
structure FirS where
  f : Bool
  v : Value
  a : Option Addr
  cap : Nat
abbrev firL (p q d : Nat) (v : Value) (s : FirS) : List HProp := match s.f with
  | false => plL p q v d
  | true => [plI p q (.slice s.a 0 s.cap), mapI q [], sl tInt 1 s.v 1 [nat64 0]]
set_option maxHeartbeats 2000000 in
theorem cl_fire2 (u p q d now : Nat) (v : Value) (hd : d ≤ now) : FnDoes Tryz.prog 43 [pt0 u, nat64 now] (ckI u p :: plL p q v d) (fun _ : Value × Option Addr × Nat => True) (fun y => y.1) (fun y => [ckI u p, plI p q (.slice y.2.1 0 y.2.2), mapI q [], sl tInt 1 y.1 1 [nat64 0]]) := by
  have hn := cl_next1 u p q d v
  have hp := hq_pop p q d v
  refine does_of Tryz.func43 rfl rfl Tryz.ntmps43 rfl eNUM (fun c => ?_)
  (refine go ?_; intros)
  refine wpC_loop (σ := FirS) (fun s => s.f = false → s.v = .slice none 0 0) (fun s => [(0, pt0 u), (1, nat64 now), (5, s.v)]) (fun s => ckI u p :: firL p q d v s) (fun s => if s.f then 0 else 1) ⟨false, .slice none 0 0, none, 0⟩ (fun _ => rfl) sUB (by dsimp only [firL]; ((try simp only [List.cons_append, List.nil_append]); repeat (first | exact Ent.nil | (apply Ent.cons; repeat (first | exact Pick.head | apply Pick.tail))))) (fun s hs => ?_)
  obtain ⟨f, w, a, cap⟩ := s
  cases f with
  | false =>
    obtain rfl := hs rfl
    dsimp only [firL]
    (refine go ?_; intros)
    (show wpO _ _ ⟨_, .call _, _, _, _, _⟩ _ _ _ _ _ _; refine o_callA (hn) (fun _ _ => ?_); try simp only [List.cons_append, List.nil_append])
    (refine go ?_; intros)
    (show wpO _ _ ⟨_, .call _, _, _, _, _⟩ _ _ _ _ _ _; refine o_callA (hp) (fun ⟨a', cap'⟩ _ => ?_); try simp only [List.cons_append, List.nil_append])
    try dsimp only
    (refine go ?_; intros)
    refine wpO_ent (Ent.slNil (e := tInt) (size := 1) (Ent.refl _)) ?_
    refine o_append (m := 1) (news := [nat64 0]) (sz := 1) rfl rfl rfl rfl rfl rfl rfl rfl pK (src_pts rfl pK rfl rfl rfl) (by decide +kernel) rfl (fun v' => ?_)
    (refine go ?_; intros)
    exact q_round (⟨true, v', a', cap'⟩ : FirS) (fun h => by cases h) (show (0 : Nat) < 1 by decide) sUB (by dsimp only [firL]; ((try simp only [List.cons_append, List.nil_append]); repeat (first | exact Ent.nil | (apply Ent.cons; repeat (first | exact Pick.head | apply Pick.tail)))))
  | true =>
    have hn0 := cl_next0 u p q cap a
    dsimp only [firL]
    refine wpC_fact (sl_one (v := w) pK) (fun o3 => ?_)
    (refine go ?_; intros)
    (show wpO _ _ ⟨_, .call _, _, _, _, _⟩ _ _ _ _ _ _; refine o_callA (hn0) (fun _ _ => ?_); try simp only [List.cons_append, List.nil_append])
    (refine go ?_; intros)
    exact q_ret1 rfl rfl (w, a, cap) rfl trivial eNT
end Go.Proofs.YtnaabpfpldelmaaGreatDoor
