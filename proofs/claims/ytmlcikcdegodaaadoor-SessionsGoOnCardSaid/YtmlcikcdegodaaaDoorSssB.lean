/-
  The package sessions: what goes over the taken slots; all of them; who is found; who opens.
-/
import Derived.Test.YtmlcikcdegodaaaDoorSssA
set_option linter.unusedSimpArgs false
set_option linter.unusedVariables false
set_option maxRecDepth 20000
namespace Go.Proofs.YtmlcikcdegodaaaDoor
open Go Go.Sx
def entV (e : Nat × Nat) : List Value := [.int .i64 e.1, ptr e.2]
abbrev sssR (L : List Slot) (i : Nat) : HProp := starI ((L.map slotI).eraseIdx i)
theorem sss_out {L : List Slot} {i p : Nat} {z : Ses} {M R : List HProp} (h : L[i]? = some (some (p, z))) (pk : Pick M (sssS L) R) : Ent M (sesI p z :: sssR L i :: R) :=
  Ent.out pk (by rw [List.getElem?_map, h]; rfl)
theorem sss_inS {L : List Slot} {i p : Nat} {z : Ses} {M R R' : List HProp} (h : i < L.length) (pk : Pick M (sesI p z) R) (qk : Pick R (sssR L i) R') : Ent M (sssS (L.set i (some (p, z))) :: R') := by
  have := Ent.back pk qk (by simpa using h)
  rw [sssS, List.map_set]
  exact this
theorem set_same {L : List Slot} {i : Nat} {o : Slot} (h : L[i]? = some o) : L.set i o = L := by
  obtain ⟨hi, e⟩ := List.getElem?_eq_some_iff.1 h
  rw [← e]; exact List.set_getElem_self hi
theorem sss_in {L : List Slot} {i p : Nat} {z : Ses} {M R R' : List HProp} (h : L[i]? = some (some (p, z))) (pk : Pick M (sesI p z) R) (qk : Pick R (sssR L i) R') : Ent M (sssS L :: R') := by
  have := sss_inS (L := L) (i := i) (p := p) (z := z) (List.getElem?_eq_some_iff.1 h).1 pk qk
  rwa [set_same h] at this
theorem sss_in1 {L : List Slot} {i p : Nat} {z : Ses} {M R R' : List HProp} (h : L[i]? = some (some (p, z))) (pk : Pick M (sesI p z) R) (qk : Pick R (sssR L i) R') : Ent M [sssS L] := Ent.trans (sss_in h pk qk) (Ent.cons .head Ent.nil)
abbrev clsC (b t : Nat) : HProp := pts b (.cells [ptr t].toArray 23 (0, 0))
attribute [local irreducible] MidQ wpE wpO wpC qE wpQ wpQO wpH wpHO wpD wpDO wpZ Ev own emp exI sl ch PostS LoopQ Rd rowsAt
theorem sss_each (t : Nat) : FnDoes Tryd.prog 30 [ptr t] [] (fun _ : Nat => True) (fun b => .func (.func 43) #[] [ptr b].toArray) (fun b => [clsC b t]) := by
  refine does_of Tryd.func30 rfl rfl Tryd.ntmps30 rfl (by simp only [enum, Nat.reduceAdd, Nat.zero_add]; exact rfl) (fun c => ?_)
  (refine go ?_; intro b)
  refine o_evB (ev_makeFunc (vb := []) (vf := [ptr b]) rfl rfl) ?_
  (refine go ?_; intros)
  exact q_ret1 rfl rfl b rfl trivial (by ((try simp only [List.cons_append, List.nil_append]); repeat (first | exact Ent.nil | (apply Ent.cons; repeat (first | exact Pick.head | apply Pick.tail)))))
set_option maxHeartbeats 1000000 in
theorem each_seq (b t : Nat) (L : List Slot) (h : L.length = 8) : SeqDoes Tryd.prog 43 [ptr b] ((entF 0 L).map entV) [clsC b t, sssC t L] := fun l J X hY => by
  rw [List.length_map]
  refine does_of Tryd.func43 rfl rfl Tryd.ntmps43 rfl (by simp only [enum, Nat.reduceAdd, Nat.zero_add]; exact rfl) (fun c => ?_)
  simp only [List.cons_append, List.nil_append]
  (refine go ?_; intros)
  refine wpC_loop (σ := Nat) (fun i => i ≤ 8) (fun i => [(0, .func (.yield l) #[] #[]), (1, ptr b), (4, .int .i64 i)]) (fun i => [clsC b t, sssC t L, J (entN L i)]) (fun i => 8 - i) 0 (Nat.zero_le _) (by repeat (first | exact trivial | refine ⟨rfl, ?_⟩)) (by ((try simp only [List.cons_append, List.nil_append]); repeat (first | exact Ent.nil | (apply Ent.cons; repeat (first | exact Pick.head | apply Pick.tail))))) (fun i hi => ?_)
  by_cases hl : i < 8
  · obtain ⟨o, ho⟩ := get8 h hl
    have hs := entN_step ho
    cases o with
    | none =>
      have hf := sss_takF ho
      (refine go ?_; intros)
      refine q_round (i + 1) hl (by omega) (by repeat (first | exact trivial | refine ⟨rfl, ?_⟩)) ?_
      rw [hs]
      ((try simp only [List.cons_append, List.nil_append]); repeat (first | exact Ent.nil | (apply Ent.cons; repeat (first | exact Pick.head | apply Pick.tail))))
    | some x =>
      obtain ⟨p, z⟩ := x
      have hf := sss_takT ho
      have hg := sss_has ho
      have he := ent_at ho
      have hk : entN L i < ((entF 0 L).map entV).length := by rw [List.length_map]; exact (List.getElem?_eq_some_iff.1 he).1
      have Y := hY (entN L i) hk
      have e2 : ((entF 0 L).map entV)[entN L i] = [.int .i64 (i : Int), ptr p] := by
        rw [List.getElem_map, (List.getElem?_eq_some_iff.1 he).2]; rfl
      rw [e2] at Y
      (refine go ?_; intros)
      (show wpO _ _ ⟨_, .call _, _, _, _, _⟩ _ _ _ _ _ _; refine o_callYA (Y) (fun yb _ => ?_); try simp only [List.cons_append, List.nil_append])
      cases yb with
      | true =>
        (refine go ?_; intros)
        refine q_round (i + 1) hl (by omega) (by repeat (first | exact trivial | refine ⟨rfl, ?_⟩)) ?_
        rw [hs]
        ((try simp only [List.cons_append, List.nil_append]); repeat (first | exact Ent.nil | (apply Ent.cons; repeat (first | exact Pick.head | apply Pick.tail))))
      | false =>
        (refine go ?_; intros)
        exact q_ret0 rfl false rfl trivial (by ((try simp only [List.cons_append, List.nil_append]); repeat (first | exact Ent.nil | (apply Ent.cons; repeat (first | exact Pick.head | apply Pick.tail))))) _ (.inl rfl)
  · obtain rfl : i = 8 := by omega
    have e := entN_len L
    rw [h] at e
    (refine go ?_; intros)
    exact q_ret0 rfl true rfl trivial (by rw [e]; ((try simp only [List.cons_append, List.nil_append]); repeat (first | exact Ent.nil | (apply Ent.cons; repeat (first | exact Pick.head | apply Pick.tail))))) _ (.inr rfl)
def takeN (L : List Slot) (k : Nat) : List Int := ((entF 0 L).take k).map fun e => (e.1 : Int)
theorem takeN_all (L : List Slot) : takeN L ((entF 0 L).map entV).length = takenL L := by unfold takeN takenL; rw [List.length_map, List.take_length]
theorem entF_len8 {L : List Slot} (h : L.length = 8) : (entF 0 L).length ≤ 8 := by rw [entF_len]; have := List.length_filter_le Option.isSome L; omega
theorem takeN_len (L : List Slot) (k : Nat) (h : k ≤ (entF 0 L).length) : (takeN L k).length = k := by unfold takeN; rw [List.length_map, List.length_take]; omega
theorem takeN_snoc (L : List Slot) (k : Nat) (h : k < (entF 0 L).length) : takeN L (k + 1) = takeN L k ++ [((entF 0 L)[k].1 : Int)] := by
  unfold takeN
  rw [List.take_succ_eq_append_getElem h, List.map_append]; rfl
theorem sss_all (t : Nat) (L : List Slot) (h : L.length = 8) : FnDoes Tryd.prog 10 [ptr t] [sssC t L] (fun _ : Value => True) (fun v => v) (fun v => [sssC t L, intsI v (takenL L)]) := by
  have h8 := entF_len8 h
  refine does_ofM Tryd.func10 rfl rfl Tryd.ntmps10 rfl (by simp only [enum, Nat.reduceAdd, Nat.zero_add]; exact rfl) (fun c hrnd hds => ?_)
  (refine go ?_; intros)
  (show wpO _ _ ⟨_, .call _, _, _, _, _⟩ _ _ _ _ _ _; refine o_callA (sss_noneF t L h) (fun _ _ => ?_); try simp only [List.cons_append, List.nil_append])
  (refine go ?_; intro c3)
  (show wpO _ _ ⟨_, .call _, _, _, _, _⟩ _ _ _ _ _ _; refine o_callA (sss_each t) (fun b _ => ?_); try simp only [List.cons_append, List.nil_append])
  (refine go ?_; intros)
  refine wpC_rangeFunc (ps := [9, 10]) (σ := Unit) (R := []) (fun _ _ => True) (fun k _ => [(3, ptr c3), (4, .int .i64 (((entF 0 L)[k]?.getD (0, 0)).1 : Nat))]) (fun k _ => [exI (σ := Value) (fun _ => True) (fun v => [pts c3 (.cells [v].toArray 31 (0, 0)), intsI v (takeN L k)])])
    (fun k => [exI (σ := Value) (fun _ => True) (fun v => [pts c3 (.cells [v].toArray 31 (0, 0)), intsI v (takeN L k)])]) (fun _ => [exI (σ := Unit) (fun _ => False) (fun _ => [])]) hrnd (each_seq b t L h) rfl rfl ?_ ?_ ?_ ?_ ?_ ?_
  · intro e he; obtain ⟨x, _, rfl⟩ := List.mem_map.1 he; rfl
  · refine Ent.cons (by repeat (first | exact Pick.head | apply Pick.tail)) (Ent.cons (by repeat (first | exact Pick.head | apply Pick.tail)) (Ent.fold (σ := Value) (.slice none 0 0) trivial (Ent.cons (by repeat (first | exact Pick.head | apply Pick.tail)) (Ent.slNil Ent.nil))))
  · intro l c' hr' hd' k hk
    simp only [List.getElem_map]
    have hk' : k < (entF 0 L).length := by simpa using hk
    rw [List.getElem?_eq_getElem hk']
    simp only [Option.getD_some]
    (refine go ?_; intros)
    exact q_mid () trivial (by repeat (first | exact trivial | refine ⟨rfl, ?_⟩)) (by ((try simp only [List.cons_append, List.nil_append]); repeat (first | exact Ent.nil | (apply Ent.cons; repeat (first | exact Pick.head | apply Pick.tail)))))
  · intro l c' hr' hd' k hk _ _
    have hk' : k < (entF 0 L).length := by simpa using hk
    have hlen := takeN_len L k (by omega)
    rw [List.getElem?_eq_getElem hk']
    simp only [Option.getD_some]
    refine wpC_unfold .head (fun v _ => ?_)
    simp only [List.cons_append, List.nil_append]
    refine wpC_fact (sl_one (v := v) (by repeat (first | exact Pick.head | apply Pick.tail))) (fun hw => ?_)
    (refine go ?_; intro bb)
    refine o_append (sz := 1) (news := [.int .i64 ((entF 0 L)[k].1 : Int)]) (m := 1) rfl rfl rfl rfl rfl rfl rfl rfl (by repeat (first | exact Pick.head | apply Pick.tail)) ?_ ?_ rfl (fun w' => ?_)
    · exact src_pts rfl (by repeat (first | exact Pick.head | apply Pick.tail)) rfl rfl rfl
    · show (_ + 1) * 8 ≤ 140737488355328
      omega
    rw [intsI_snoc, ← takeN_snoc L k hk']
    refine wpE_fact (sl_one (v := w') (by repeat (first | exact Pick.head | apply Pick.tail))) (fun hw' => ?_)
    (refine go ?_; intros)
    exact q_round1 (Ent.fold (σ := Value) w' trivial (by ((try simp only [List.cons_append, List.nil_append]); repeat (first | exact Ent.nil | (apply Ent.cons; repeat (first | exact Pick.head | apply Pick.tail))))))
  · intro D
    simp only [List.cons_append, List.nil_append]
    refine q_block_normal ?_
    refine q_then ?_
    refine wpC_unfold (.tail (.tail (.tail .head))) (fun v _ => ?_)
    simp only [List.cons_append, List.nil_append]
    refine wpC_fact (sl_one (v := v) (by repeat (first | exact Pick.head | apply Pick.tail))) (fun hw => ?_)
    rw [takeN_all]
    (refine go ?_; intros)
    exact qm_ret1 hds (by repeat (first | exact Pick.head | apply Pick.tail)) (.inl rfl) (q_ret1 rfl rfl v rfl trivial (by ((try simp only [List.cons_append, List.nil_append]); repeat (first | exact Ent.nil | (apply Ent.cons; repeat (first | exact Pick.head | apply Pick.tail))))))
  · intro D j
    exact q_falseP (.tail (.tail (.tail .head))) (fun _ hh => hh)
theorem sss_len (t : Nat) (L : List Slot) (h : L.length = 8) : FnDoes Tryd.prog 15 [ptr t] [sssC t L] (fun _ : Unit => True) (fun _ => .int .i64 (takenL L).length) (fun _ => [sssC t L]) := by
  refine does_of Tryd.func15 rfl rfl Tryd.ntmps15 rfl (by simp only [enum, Nat.reduceAdd, Nat.zero_add]; exact rfl) (fun c => ?_)
  (refine go ?_; intros)
  (show wpO _ _ ⟨_, .call _, _, _, _, _⟩ _ _ _ _ _ _; refine o_callA (sss_all t L h) (fun v _ => ?_); try simp only [List.cons_append, List.nil_append])
  (refine go ?_; intros)
  exact q_ret1 rfl rfl () rfl trivial (by ((try simp only [List.cons_append, List.nil_append]); repeat (first | exact Ent.nil | (apply Ent.cons; repeat (first | exact Pick.head | apply Pick.tail)))))
theorem sss_allN : FnDoes Tryd.prog 10 [.pointer none] [] (fun _ : Unit => True) (fun _ => .slice none 0 0) (fun _ => []) := by
  refine does_ofM Tryd.func10 rfl rfl Tryd.ntmps10 rfl (by simp only [enum, Nat.reduceAdd, Nat.zero_add]; exact rfl) (fun c hrnd hds => ?_)
  (refine go ?_; intros)
  (show wpO _ _ ⟨_, .call _, _, _, _, _⟩ _ _ _ _ _ _; refine o_callA (sss_noneN) (fun _ _ => ?_); try simp only [List.cons_append, List.nil_append])
  (refine go ?_; intros)
  exact qm_ret0 hds (.inl rfl) (q_ret1 rfl rfl () rfl trivial Ent.nil)
theorem sss_allZ (t : Nat) : FnDoes Tryd.prog 10 [ptr t] [zssC t] (fun _ : Unit => True) (fun _ => .slice none 0 0) (fun _ => [zssC t]) := by
  refine does_ofM Tryd.func10 rfl rfl Tryd.ntmps10 rfl (by simp only [enum, Nat.reduceAdd, Nat.zero_add]; exact rfl) (fun c hrnd hds => ?_)
  (refine go ?_; intros)
  (show wpO _ _ ⟨_, .call _, _, _, _, _⟩ _ _ _ _ _ _; refine o_callA (sss_noneZ t) (fun _ _ => ?_); try simp only [List.cons_append, List.nil_append])
  (refine go ?_; intros)
  exact qm_ret0 hds (.inl rfl) (q_ret1 rfl rfl () rfl trivial (by ((try simp only [List.cons_append, List.nil_append]); repeat (first | exact Ent.nil | (apply Ent.cons; repeat (first | exact Pick.head | apply Pick.tail))))))
theorem sss_lenN : FnDoes Tryd.prog 15 [.pointer none] [] (fun _ : Unit => True) (fun _ => .int .i64 0) (fun _ => []) := by
  refine does_of Tryd.func15 rfl rfl Tryd.ntmps15 rfl (by simp only [enum, Nat.reduceAdd, Nat.zero_add]; exact rfl) (fun c => ?_)
  (refine go ?_; intros)
  (show wpO _ _ ⟨_, .call _, _, _, _, _⟩ _ _ _ _ _ _; refine o_callA (sss_allN) (fun _ _ => ?_); try simp only [List.cons_append, List.nil_append])
  (refine go ?_; intros)
  exact q_ret1 rfl rfl () rfl trivial Ent.nil
theorem sss_lenZ (t : Nat) : FnDoes Tryd.prog 15 [ptr t] [zssC t] (fun _ : Unit => True) (fun _ => .int .i64 0) (fun _ => [zssC t]) := by
  refine does_of Tryd.func15 rfl rfl Tryd.ntmps15 rfl (by simp only [enum, Nat.reduceAdd, Nat.zero_add]; exact rfl) (fun c => ?_)
  (refine go ?_; intros)
  (show wpO _ _ ⟨_, .call _, _, _, _, _⟩ _ _ _ _ _ _; refine o_callA (sss_allZ t) (fun _ _ => ?_); try simp only [List.cons_append, List.nil_append])
  (refine go ?_; intros)
  exact q_ret1 rfl rfl () rfl trivial (by ((try simp only [List.cons_append, List.nil_append]); repeat (first | exact Ent.nil | (apply Ent.cons; repeat (first | exact Pick.head | apply Pick.tail)))))
/-- None of the first k taken ones is the client's. -/
def noneK (L : List Slot) (cl : ByteArray) (k : Nat) : Prop := ∀ j (hj : j < (entF 0 L).length), j < k → ∀ o, L[(entF 0 L)[j].1]? = some o → isC cl o = false
theorem noneK_all {L : List Slot} {cl : ByteArray} (h : noneK L cl (entF 0 L).length) : findL L cl = L.length := findL_no fun j o ho => by
  cases o with
  | none => rfl
  | some x =>
    obtain ⟨p, z⟩ := x
    have he := ent_at ho
    obtain ⟨hk, e⟩ := List.getElem?_eq_some_iff.1 he
    exact h _ hk hk _ (by rw [e]; exact ho)
theorem noneK_at {L : List Slot} {cl : ByteArray} {k : Nat} (hk : k < (entF 0 L).length) {z : Ses} (h : noneK L cl k) (e : L[(entF 0 L)[k].1]? = some (some ((entF 0 L)[k].2, z))) (hc : z.client = cl) : findL L cl = (entF 0 L)[k].1 := by
  refine findL_is e (by simp [isC, hc]) (fun j hj o ho => ?_)
  cases o with
  | none => rfl
  | some x =>
    obtain ⟨p, y⟩ := x
    have he := ent_at ho
    obtain ⟨hk', e'⟩ := List.getElem?_eq_some_iff.1 he
    have hkk : entN L (entF 0 L)[k].1 = k := by
      obtain ⟨_, _, e3⟩ := ent_of (List.getElem?_eq_getElem hk); exact e3
    have hlt : entN L j < k := by
      have h1 := entN_mono L (i := j + 1) (j := (entF 0 L)[k].1) hj
      rw [entN_step ho] at h1
      simp at h1
      omega
    exact h _ hk' hlt _ (by rw [e']; exact ho)
theorem noneK_step {L : List Slot} {cl : ByteArray} {k : Nat} (hk : k < (entF 0 L).length) {z : Ses} (h : noneK L cl k) (e : L[(entF 0 L)[k].1]? = some (some ((entF 0 L)[k].2, z))) (hc : z.client ≠ cl) : noneK L cl (k + 1) := fun j hj hjk o ho => by
  rcases Nat.lt_or_ge j k with g | g
  · exact h j hj g o ho
  · obtain rfl : j = k := by omega
    rw [e] at ho; cases ho
    simpa [isC] using hc
set_option maxHeartbeats 1000000 in
theorem sss_find (t : Nat) (L : List Slot) (h : L.length = 8) (cl : ByteArray) : FnDoes Tryd.prog 12 [ptr t, .string cl] [sssC t L, sssS L] (fun _ : Unit => True) (fun _ => if findL L cl < 8 then .tuple #[.int .i64 (findL L cl), .bool true] else .tuple #[.int .i64 0, .bool false]) (fun _ => [sssC t L, sssS L]) := by
  have h8 := entF_len8 h
  refine does_ofM Tryd.func12 rfl rfl Tryd.ntmps12 rfl (by simp only [enum, Nat.reduceAdd, Nat.zero_add]; exact rfl) (fun c hrnd hds => ?_)
  (refine go ?_; intro c3 c4 c5)
  (show wpO _ _ ⟨_, .call _, _, _, _, _⟩ _ _ _ _ _ _; refine o_callA (sss_noneF t L h) (fun _ _ => ?_); try simp only [List.cons_append, List.nil_append])
  (refine go ?_; intros)
  (show wpO _ _ ⟨_, .call _, _, _, _, _⟩ _ _ _ _ _ _; refine o_callA (sss_each t) (fun b _ => ?_); try simp only [List.cons_append, List.nil_append])
  (refine go ?_; intros)
  refine wpC_rangeFunc (ps := [12, 13]) (σ := Unit) (R := []) (fun _ _ => True) (fun k _ => [(3, ptr c3), (4, ptr c4), (5, ptr c5), (6, .int .i64 (((entF 0 L)[k]?.getD (0, 0)).1 : Nat)), (7, ptr ((entF 0 L)[k]?.getD (0, 0)).2)])
    (fun k _ => [exI (σ := Unit) (fun _ => noneK L cl k) (fun _ => [pts c3 (.cells [.string cl].toArray 9 (0, 0)), pts c4 (.cells [.int .i64 0].toArray 3 (0, 0)), pts c5 (.cells [.bool false].toArray 4 (0, 0)), sssS L])])
    (fun k => [exI (σ := Unit) (fun _ => noneK L cl k) (fun _ => [pts c3 (.cells [.string cl].toArray 9 (0, 0)), pts c4 (.cells [.int .i64 0].toArray 3 (0, 0)), pts c5 (.cells [.bool false].toArray 4 (0, 0)), sssS L])])
    (fun j => [exI (σ := Unit) (fun _ => j = none ∧ findL L cl < 8) (fun _ => [pts c4 (.cells [.int .i64 (findL L cl)].toArray 3 (0, 0)), pts c5 (.cells [.bool true].toArray 4 (0, 0)), sssS L])]) hrnd (each_seq b t L h) rfl rfl ?_ ?_ ?_ ?_ ?_ ?_
  · intro e he; obtain ⟨x, _, rfl⟩ := List.mem_map.1 he; rfl
  · refine Ent.cons (by repeat (first | exact Pick.head | apply Pick.tail)) (Ent.cons (by repeat (first | exact Pick.head | apply Pick.tail)) (Ent.fold (σ := Unit) () (fun j hj hk => by omega) (by ((try simp only [List.cons_append, List.nil_append]); repeat (first | exact Ent.nil | (apply Ent.cons; repeat (first | exact Pick.head | apply Pick.tail)))))))
  · intro l c' hr' hd' k hk
    simp only [List.getElem_map]
    have hk' : k < (entF 0 L).length := by simpa using hk
    rw [List.getElem?_eq_getElem hk']
    simp only [Option.getD_some]
    (refine go ?_; intros)
    exact q_mid () trivial (by repeat (first | exact trivial | refine ⟨rfl, ?_⟩)) (by ((try simp only [List.cons_append, List.nil_append]); repeat (first | exact Ent.nil | (apply Ent.cons; repeat (first | exact Pick.head | apply Pick.tail)))))
  · intro l c' hr' hd' k hk _ _
    have hk' : k < (entF 0 L).length := by simpa using hk
    rw [List.getElem?_eq_getElem hk']
    simp only [Option.getD_some]
    obtain ⟨z, hz, hn⟩ := ent_of (List.getElem?_eq_getElem hk')
    refine wpC_unfold .head (fun _ hno => ?_)
    simp only [List.cons_append, List.nil_append]
    refine wpC_ent (sss_out hz (.tail (.tail (.tail .head)))) ?_
    (refine go ?_; intros)
    refine wpC_drawnA [pts c3 (.cells [.string cl].toArray 9 (0, 0))] 3 ?_
    ((first | refine dt 0 ?_ | refine dts 0 ?_); (first | refine dt 2 ?_ | refine dts 2 ?_))
    (refine dcall 1 (ses_client (entF 0 L)[k].2 z) (fun _ _ => ?_); try simp only [List.cons_append, List.nil_append])
    by_cases hc : z.client = cl
    · (refine dl ?_)
      (refine go ?_; intros)
      have hf := noneK_at hk' hno hz hc
      have hlt : (entF 0 L)[k].1 < 8 := by have := (List.getElem?_eq_some_iff.1 hz).1; omega
      exact q_roundX none (Ent.fold (σ := Unit) () ⟨rfl, by omega⟩ (by rw [hf]; exact Ent.cons (by repeat (first | exact Pick.head | apply Pick.tail)) (Ent.cons (by repeat (first | exact Pick.head | apply Pick.tail)) (sss_in1 hz (by repeat (first | exact Pick.head | apply Pick.tail)) (by repeat (first | exact Pick.head | apply Pick.tail))))))
    · (refine dl ?_)
      (refine go ?_; intros)
      exact q_round1 (Ent.fold (σ := Unit) () (noneK_step hk' hno hz hc) (Ent.cons (by repeat (first | exact Pick.head | apply Pick.tail)) (Ent.cons (by repeat (first | exact Pick.head | apply Pick.tail)) (Ent.cons (by repeat (first | exact Pick.head | apply Pick.tail)) (sss_in1 hz (by repeat (first | exact Pick.head | apply Pick.tail)) (by repeat (first | exact Pick.head | apply Pick.tail)))))))
  · intro D
    simp only [List.cons_append, List.nil_append]
    refine q_block_normal ?_
    refine q_then ?_
    refine wpC_unfold (.tail (.tail (.tail .head))) (fun _ hno => ?_)
    simp only [List.cons_append, List.nil_append]
    rw [List.length_map] at hno
    have e := noneK_all hno
    rw [e, h]
    (refine go ?_; intros)
    exact qm_ret1 hds (by repeat (first | exact Pick.head | apply Pick.tail)) (.inl rfl) (q_ret2cc rfl rfl rfl rfl rfl rfl rfl (by repeat (first | exact Pick.head | apply Pick.tail)) (by repeat (first | exact Pick.head | apply Pick.tail)) () rfl trivial (by ((try simp only [List.cons_append, List.nil_append]); repeat (first | exact Ent.nil | (apply Ent.cons; repeat (first | exact Pick.head | apply Pick.tail))))))
  · intro D j
    cases j with
    | some id => exact q_falseP (.tail (.tail (.tail .head))) (fun _ hh => by cases hh.1)
    | none =>
      simp only [List.cons_append, List.nil_append]
      refine q_block_ret ?_
      refine q_then_ret ?_
      refine q_unfoldP (.tail (.tail (.tail .head))) (fun _ hh => ?_)
      simp only [List.cons_append, List.nil_append]
      rw [if_pos hh.2]
      exact qm_ret1 hds (by repeat (first | exact Pick.head | apply Pick.tail)) (.inl rfl) (q_ret2cc rfl rfl rfl rfl rfl rfl rfl (by repeat (first | exact Pick.head | apply Pick.tail)) (by repeat (first | exact Pick.head | apply Pick.tail)) () rfl trivial (by ((try simp only [List.cons_append, List.nil_append]); repeat (first | exact Ent.nil | (apply Ent.cons; repeat (first | exact Pick.head | apply Pick.tail))))))
end Go.Proofs.YtmlcikcdegodaaaDoor
