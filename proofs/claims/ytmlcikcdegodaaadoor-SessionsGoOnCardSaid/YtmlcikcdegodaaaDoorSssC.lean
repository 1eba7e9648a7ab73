/-
  The package sessions: a client opens.
-/
import Derived.Test.YtmlcikcdegodaaaDoorSssB
set_option linter.unusedSimpArgs false
set_option linter.unusedVariables false
set_option maxRecDepth 20000
namespace Go.Proofs.YtmlcikcdegodaaaDoor
open Go Go.Sx
attribute [local irreducible] MidQ wpE wpO wpC qE wpQ wpQO wpH wpHO wpD wpDO wpZ Ev own emp exI sl ch PostS LoopQ Rd rowsAt
theorem sss_openS {L : List Slot} {i s : Nat} {z : Ses} {M R R' : List HProp} (h : L[i]? = some none) (pk : Pick M (sesI s z) R) (qk : Pick R (sssS L) R') : Ent M (sssS (L.set i (some (s, z))) :: R') := by
  have hi := (List.getElem?_eq_some_iff.1 h).1
  have h1 : Ent (sssS L :: R') (emp :: sssR L i :: R') := Ent.starOut (by rw [List.getElem?_map, h]; rfl)
  have h2 : Ent M (sesI s z :: sssS L :: R') := Ent.cons pk (Ent.pick qk)
  have h3 : Ent (sesI s z :: sssS L :: R') (sesI s z :: sssR L i :: R') := Ent.cons .head (Ent.trans h1 (Ent.trans (Ent.pick (.tail .head)) (Ent.cons .head (Ent.cons_tail))))
  exact Ent.trans h2 (Ent.trans h3 (sss_inS hi .head .head))
theorem sss_replace {L : List Slot} {i s p : Nat} {z y : Ses} {M R R' : List HProp} (h : L[i]? = some (some (p, y))) (pk : Pick M (sesI s z) R) (qk : Pick R (sssS L) R') : Ent M (sssS (L.set i (some (s, z))) :: R') := by
  have hi := (List.getElem?_eq_some_iff.1 h).1
  have h2 : Ent M (sesI s z :: sssS L :: R') := Ent.cons pk (Ent.pick qk)
  have h3 : Ent (sesI s z :: sssS L :: R') (sesI s z :: sssR L i :: R') := Ent.cons .head (Ent.trans (sss_out h .head) Ent.cons_tail)
  exact Ent.trans h2 (Ent.trans h3 (sss_inS hi .head .head))
set_option maxHeartbeats 2000000 in
theorem sss_open (H : PHeap) (V : ValidIn H) (t : Nat) (L : List Slot) (h : L.length = 8) (cl : ByteArray) (cn : Bool) : FnDoes Tryd.prog 9 [ptr t, .string cl, .bool cn] [own H, sssC t L, sssS L] (fun _ : Nat => True)
    (fun s => .tuple #[.int .i64 (openR (newB cl) L cl cn s).i, .bool (openR (newB cl) L cl cn s).b, .int .i64 (openR (newB cl) L cl cn s).e]) (fun s => [own H, sssC t (openR (newB cl) L cl cn s).L, sssS (openR (newB cl) L cl cn s).L]) := by
  refine does_of Tryd.func9 rfl rfl Tryd.ntmps9 rfl (by simp only [enum, Nat.reduceAdd, Nat.zero_add]; exact rfl) (fun c => ?_)
  rcases hn : newB cl with _ | _
  · have e : ∀ s, openR false L cl cn s = ⟨0, false, 1, L⟩ := fun s => by unfold openR; rw [if_pos rfl]
    simp only [e]
    (refine go ?_; intros)
    (show wpO _ _ ⟨_, .call _, _, _, _, _⟩ _ _ _ _ _ _; refine o_callA (sss_noneF t L h) (fun _ _ => ?_); try simp only [List.cons_append, List.nil_append])
    (refine go ?_; intros)
    (show wpO _ _ ⟨_, .call _, _, _, _, _⟩ _ _ _ _ _ _; refine o_callA (ses_newF H V cl cn hn) (fun _ _ => ?_); try simp only [List.cons_append, List.nil_append])
    (refine go ?_; intros)
    exact q_ret3 rfl rfl rfl rfl 0 rfl trivial (by ((try simp only [List.cons_append, List.nil_append]); repeat (first | exact Ent.nil | (apply Ent.cons; repeat (first | exact Pick.head | apply Pick.tail)))))
  · by_cases hf : findL L cl < 8
    · have F := sss_find t L h cl
      obtain ⟨p, z, hz, hc⟩ := findL_at (L := L) (c := cl) (by omega)
      have ec : cleanAt L (findL L cl) = z.clean := by unfold cleanAt; rw [hz]
      have hg := sss_has hz
      simp only [hf, if_true] at F
      by_cases hcc : cn = false ∧ z.clean = false
      · have e : ∀ s, openR true L cl cn s = ⟨findL L cl, true, 0, L⟩ := fun s => by unfold openR; rw [if_neg (by simp), if_pos hf, if_pos (by rw [ec]; exact hcc)]
        obtain ⟨rfl, hcz⟩ := hcc
        simp only [e]
        (refine go ?_; intros)
        (show wpO _ _ ⟨_, .call _, _, _, _, _⟩ _ _ _ _ _ _; refine o_callA (sss_noneF t L h) (fun _ _ => ?_); try simp only [List.cons_append, List.nil_append])
        (refine go ?_; intros)
        (show wpO _ _ ⟨_, .call _, _, _, _, _⟩ _ _ _ _ _ _; refine o_callA (ses_newT H V cl false hn) (fun s _ => ?_); try simp only [List.cons_append, List.nil_append])
        (refine go ?_; intros)
        (show wpO _ _ ⟨_, .call _, _, _, _, _⟩ _ _ _ _ _ _; refine o_callA (F) (fun _ _ => ?_); try simp only [List.cons_append, List.nil_append])
        (refine go ?_; intros)
        refine wpO_ent (sss_out hz (by repeat (first | exact Pick.head | apply Pick.tail))) ?_
        (show wpO _ _ ⟨_, .call _, _, _, _, _⟩ _ _ _ _ _ _; refine o_callA (ses_clean p z) (fun _ _ => ?_); try simp only [List.cons_append, List.nil_append])
        rw [hcz]
        (refine go ?_; intros)
        refine q_ret3 rfl rfl rfl rfl 0 rfl trivial ?_
        exact Ent.cons (by repeat (first | exact Pick.head | apply Pick.tail)) (Ent.cons (by repeat (first | exact Pick.head | apply Pick.tail)) (sss_in1 hz (by repeat (first | exact Pick.head | apply Pick.tail)) (by repeat (first | exact Pick.head | apply Pick.tail))))
      · have e : ∀ s, openR true L cl cn s = ⟨findL L cl, false, 0, L.set (findL L cl) (some (s, newZ cl cn))⟩ := fun s => by unfold openR; rw [if_neg (by simp), if_pos hf, if_neg (by rw [ec]; exact hcc)]
        simp only [e]
        cases cn with
        | true =>
          (refine go ?_; intros)
          (show wpO _ _ ⟨_, .call _, _, _, _, _⟩ _ _ _ _ _ _; refine o_callA (sss_noneF t L h) (fun _ _ => ?_); try simp only [List.cons_append, List.nil_append])
          (refine go ?_; intros)
          (show wpO _ _ ⟨_, .call _, _, _, _, _⟩ _ _ _ _ _ _; refine o_callA (ses_newT H V cl true hn) (fun s _ => ?_); try simp only [List.cons_append, List.nil_append])
          (refine go ?_; intros)
          (show wpO _ _ ⟨_, .call _, _, _, _, _⟩ _ _ _ _ _ _; refine o_callA (F) (fun _ _ => ?_); try simp only [List.cons_append, List.nil_append])
          (refine go ?_; intros)
          (show wpO _ _ ⟨_, .call _, _, _, _, _⟩ _ _ _ _ _ _; refine o_callA (place_put t L (findL L cl) s (newZ cl true) (by omega)) (fun _ _ => ?_); try simp only [List.cons_append, List.nil_append])
          (refine go ?_; intros)
          exact q_ret3 rfl rfl rfl rfl s rfl trivial (Ent.cons (by repeat (first | exact Pick.head | apply Pick.tail)) (Ent.cons (by repeat (first | exact Pick.head | apply Pick.tail)) (Ent.trans (sss_replace hz (by repeat (first | exact Pick.head | apply Pick.tail)) (by repeat (first | exact Pick.head | apply Pick.tail))) (Ent.cons .head Ent.nil))))
        | false =>
          have hcz : z.clean = true := by
            rcases hzc : z.clean with _ | _
            · exact absurd ⟨rfl, hzc⟩ hcc
            · rfl
          (refine go ?_; intros)
          (show wpO _ _ ⟨_, .call _, _, _, _, _⟩ _ _ _ _ _ _; refine o_callA (sss_noneF t L h) (fun _ _ => ?_); try simp only [List.cons_append, List.nil_append])
          (refine go ?_; intros)
          (show wpO _ _ ⟨_, .call _, _, _, _, _⟩ _ _ _ _ _ _; refine o_callA (ses_newT H V cl false hn) (fun s _ => ?_); try simp only [List.cons_append, List.nil_append])
          (refine go ?_; intros)
          (show wpO _ _ ⟨_, .call _, _, _, _, _⟩ _ _ _ _ _ _; refine o_callA (F) (fun _ _ => ?_); try simp only [List.cons_append, List.nil_append])
          (refine go ?_; intros)
          refine wpO_ent (sss_out hz (by repeat (first | exact Pick.head | apply Pick.tail))) ?_
          (show wpO _ _ ⟨_, .call _, _, _, _, _⟩ _ _ _ _ _ _; refine o_callA (ses_clean p z) (fun _ _ => ?_); try simp only [List.cons_append, List.nil_append])
          rw [hcz]
          (refine go ?_; intros)
          (show wpO _ _ ⟨_, .call _, _, _, _, _⟩ _ _ _ _ _ _; refine o_callA (place_put t L (findL L cl) s (newZ cl false) (by omega)) (fun _ _ => ?_); try simp only [List.cons_append, List.nil_append])
          (refine go ?_; intros)
          refine q_ret3 rfl rfl rfl rfl s rfl trivial ?_
          exact Ent.cons (by repeat (first | exact Pick.head | apply Pick.tail)) (Ent.cons (by repeat (first | exact Pick.head | apply Pick.tail)) (Ent.trans (Ent.cons (A := sesI s (newZ cl false)) (by repeat (first | exact Pick.head | apply Pick.tail)) (sss_in hz (by repeat (first | exact Pick.head | apply Pick.tail)) (by repeat (first | exact Pick.head | apply Pick.tail)))) (Ent.trans (sss_replace hz .head .head) (Ent.cons .head Ent.nil))))
    · have F := sss_find t L h cl
      have G := sss_free t L h
      simp only [hf, if_false] at F
      by_cases hr : freeL L < 8
      · have hz := freeL_at (L := L) (by omega)
        have e : ∀ s, openR true L cl cn s = ⟨freeL L, false, 0, L.set (freeL L) (some (s, newZ cl cn))⟩ := fun s => by unfold openR; rw [if_neg (by simp), if_neg hf, if_pos hr]
        simp only [e]
        simp only [hr, if_true] at G
        (refine go ?_; intros)
        (show wpO _ _ ⟨_, .call _, _, _, _, _⟩ _ _ _ _ _ _; refine o_callA (sss_noneF t L h) (fun _ _ => ?_); try simp only [List.cons_append, List.nil_append])
        (refine go ?_; intros)
        (show wpO _ _ ⟨_, .call _, _, _, _, _⟩ _ _ _ _ _ _; refine o_callA (ses_newT H V cl cn hn) (fun s _ => ?_); try simp only [List.cons_append, List.nil_append])
        (refine go ?_; intros)
        (show wpO _ _ ⟨_, .call _, _, _, _, _⟩ _ _ _ _ _ _; refine o_callA (F) (fun _ _ => ?_); try simp only [List.cons_append, List.nil_append])
        (refine go ?_; intros)
        (show wpO _ _ ⟨_, .call _, _, _, _, _⟩ _ _ _ _ _ _; refine o_callA (G) (fun _ _ => ?_); try simp only [List.cons_append, List.nil_append])
        (refine go ?_; intros)
        (show wpO _ _ ⟨_, .call _, _, _, _, _⟩ _ _ _ _ _ _; refine o_callA (place_put t L (freeL L) s (newZ cl cn) (by omega)) (fun _ _ => ?_); try simp only [List.cons_append, List.nil_append])
        (refine go ?_; intros)
        exact q_ret3 rfl rfl rfl rfl s rfl trivial (Ent.cons (by repeat (first | exact Pick.head | apply Pick.tail)) (Ent.cons (by repeat (first | exact Pick.head | apply Pick.tail)) (Ent.trans (sss_openS hz (by repeat (first | exact Pick.head | apply Pick.tail)) (by repeat (first | exact Pick.head | apply Pick.tail))) (Ent.cons .head Ent.nil))))
      · have e : ∀ s, openR true L cl cn s = ⟨0, false, 6, L⟩ := fun s => by unfold openR; rw [if_neg (by simp), if_neg hf, if_neg hr]
        simp only [e]
        simp only [hr, if_false] at G
        (refine go ?_; intros)
        (show wpO _ _ ⟨_, .call _, _, _, _, _⟩ _ _ _ _ _ _; refine o_callA (sss_noneF t L h) (fun _ _ => ?_); try simp only [List.cons_append, List.nil_append])
        (refine go ?_; intros)
        (show wpO _ _ ⟨_, .call _, _, _, _, _⟩ _ _ _ _ _ _; refine o_callA (ses_newT H V cl cn hn) (fun s _ => ?_); try simp only [List.cons_append, List.nil_append])
        (refine go ?_; intros)
        (show wpO _ _ ⟨_, .call _, _, _, _, _⟩ _ _ _ _ _ _; refine o_callA (F) (fun _ _ => ?_); try simp only [List.cons_append, List.nil_append])
        (refine go ?_; intros)
        (show wpO _ _ ⟨_, .call _, _, _, _, _⟩ _ _ _ _ _ _; refine o_callA (G) (fun _ _ => ?_); try simp only [List.cons_append, List.nil_append])
        (refine go ?_; intros)
        exact q_ret3 rfl rfl rfl rfl s rfl trivial (by ((try simp only [List.cons_append, List.nil_append]); repeat (first | exact Ent.nil | (apply Ent.cons; repeat (first | exact Pick.head | apply Pick.tail)))))
end Go.Proofs.YtmlcikcdegodaaaDoor
