/-
  What a new node makes of what it is told, but for a birth.
  A new node's birth; what a new node makes of anything.
  What a new node makes of anything.
  All nodes and hosts, where nothing is known yet: the steps that are taken at an entry.
-/
import Derived.Test.YtnaabpfpldelmaaGreatDoorM22
import Derived.Test.YtnaabpfpldelmaaGreatDoorM25
set_option linter.unusedSimpArgs false
set_option linter.unusedVariables false
set_option maxRecDepth 20000
namespace Go.Proofs.YtnaabpfpldelmaaGreatDoor
open Go Go.Sx
abbrev ed0 (g nm : ByteArray) (P : EdN) : HProp := edgI P.e ⟨g, nm, false, 0, P.r, false, .slice none 0 0, P.t⟩
abbrev payA (s : PayS) : Value := .agg (payC s).toArray
attribute [local irreducible] MidQ wpE wpO wpC qE wpQ wpQO wpH wpHO wpD wpDO wpZ Ev own emp exI sl ch PostS LoopQ Rd rowsAt
theorem ed_search (nm : ByteArray) (f : Value) (hf : f.oneCell' = true) : FnDoes Tryz.prog 509 [.slice none 0 0, .string nm, f] [] (fun _ : Unit => True) (fun _ => .tuple #[nat64 0, .bool false]) (fun _ => []) := by
  refine does_of Tryz.func509 rfl rfl Tryz.ntmps509 rfl eNUM (fun c => ?_)
  (refine go ?_; intros)
  refine wpC_loop (σ := Unit) (fun _ => True) (fun _ => [(0, .slice none 0 0), (8, nat64 0), (9, nat64 0), (10, nat64 0), (1, .string nm), (2, f)]) (fun _ => []) (fun _ => 0) () trivial sUB eNT (fun _ _ => ?_)
  (refine go ?_; intros)
  first
    | exact q_ret2 rfl rfl rfl () rfl trivial eNT
    | (refine wpC_drawnA [] 15 ?_
       ((first | refine dt 0 ?_ | refine dts 0 ?_); (first | refine dt 1 ?_ | refine dts 1 ?_); (first | refine df 2 ?_ | refine dfs 2 ?_); (first | refine df 3 ?_ | refine dfs 3 ?_); (first | refine df 4 ?_ | refine dfs 4 ?_); (first | refine dt 5 ?_ | refine dts 5 ?_); (first | refine dt 6 ?_ | refine dts 6 ?_); (first | refine dt 7 ?_ | refine dts 7 ?_); (first | refine dt 8 ?_ | refine dts 8 ?_); (first | refine dt 9 ?_ | refine dts 9 ?_); (first | refine df 10 ?_ | refine dfs 10 ?_); (first | refine df 11 ?_ | refine dfs 11 ?_); (first | refine dt 12 ?_ | refine dts 12 ?_); (first | refine dt 13 ?_ | refine dts 13 ?_); (first | refine df 14 ?_ | refine dfs 14 ?_); refine dl ?_)
       (refine go ?_; intros)
       exact q_ret2 rfl rfl rfl () rfl trivial eNT)
theorem ed_find (g nm : ByteArray) (P : EdN) (d : ByteArray) : FnDoes Tryz.prog 459 [pt0 P.e, .string d] [ed0 g nm P] (fun _ : Unit => True) (fun _ => .tuple #[nat64 0, .bool false]) (fun _ => [ed0 g nm P]) := by
  have hs := ed_search d (.func (.func 510) #[] #[]) rfl
  refine does_of Tryz.func459 rfl rfl Tryz.ntmps459 rfl eNUM (fun c => ?_)
  (refine go ?_; intros)
  (show wpO _ _ ⟨_, .call _, _, _, _, _⟩ _ _ _ _ _ _; refine o_callA (hs) (fun _ _ => ?_); try simp only [List.cons_append, List.nil_append])
  (refine go ?_; intros)
  exact q_ret2 rfl rfl rfl () rfl trivial eNT
theorem ed_data (g nm : ByteArray) (P : EdN) (d : ByteArray) (s : PayS) (hs : s.mv.oneCell' = true) : FnDoes Tryz.prog 369 [pt0 P.e, .string d, payA s] [ed0 g nm P] (fun _ : Unit => True) (fun _ => nat64 5) (fun _ => [ed0 g nm P]) := by
  refine does_of Tryz.func369 rfl rfl Tryz.ntmps369 rfl eNUM (fun c => ?_)
  (refine go ?_; intros)
  exact q_ret1 rfl rfl () rfl trivial eNT
theorem ed_dbirth (g nm : ByteArray) (P : EdN) (d : ByteArray) (s : PayS) (hs : s.mv.oneCell' = true) : FnDoes Tryz.prog 370 [pt0 P.e, .string d, payA s] [ed0 g nm P] (fun _ : Unit => True) (fun _ => nat64 5) (fun _ => [ed0 g nm P]) := by
  have hf := ed_find g nm P d
  refine does_of Tryz.func370 rfl rfl Tryz.ntmps370 rfl eNUM (fun c => ?_)
  (refine go ?_; intros)
  (show wpO _ _ ⟨_, .call _, _, _, _, _⟩ _ _ _ _ _ _; refine o_callA (hf) (fun _ _ => ?_); try simp only [List.cons_append, List.nil_append])
  (refine go ?_; intros)
  exact q_ret1 rfl rfl () rfl trivial eNT
theorem ed_living (g nm : ByteArray) (P : EdN) (d : ByteArray) (s : PayS) (hs : s.mv.oneCell' = true) : FnDoes Tryz.prog 462 [pt0 P.e, .string d, payA s] [ed0 g nm P] (fun _ : Unit => True) (fun _ => .tuple #[.pointer none, nat64 5]) (fun _ => [ed0 g nm P]) := by
  have hf := ed_find g nm P d
  refine does_of Tryz.func462 rfl rfl Tryz.ntmps462 rfl eNUM (fun c => ?_)
  (refine go ?_; intros)
  (show wpO _ _ ⟨_, .call _, _, _, _, _⟩ _ _ _ _ _ _; refine o_callA (hf) (fun _ _ => ?_); try simp only [List.cons_append, List.nil_append])
  (refine go ?_; intros)
  exact q_ret2 rfl rfl rfl () rfl trivial eNT
theorem ed_ddata (g nm : ByteArray) (P : EdN) (d : ByteArray) (s : PayS) (hs : s.mv.oneCell' = true) : FnDoes Tryz.prog 371 [pt0 P.e, .string d, payA s] [ed0 g nm P] (fun _ : Unit => True) (fun _ => nat64 5) (fun _ => [ed0 g nm P]) := by
  have hf := ed_living g nm P d s hs
  refine does_of Tryz.func371 rfl rfl Tryz.ntmps371 rfl eNUM (fun c => ?_)
  (refine go ?_; intros)
  (show wpO _ _ ⟨_, .call _, _, _, _, _⟩ _ _ _ _ _ _; refine o_callA (hf) (fun _ _ => ?_); try simp only [List.cons_append, List.nil_append])
  (refine go ?_; intros)
  exact q_ret1 rfl rfl () rfl trivial eNT
theorem ed_ddeath (g nm : ByteArray) (P : EdN) (d : ByteArray) (s : PayS) (hs : s.mv.oneCell' = true) : FnDoes Tryz.prog 372 [pt0 P.e, .string d, payA s] [ed0 g nm P] (fun _ : Unit => True) (fun _ => nat64 5) (fun _ => [ed0 g nm P]) := by
  have hf := ed_living g nm P d s hs
  refine does_of Tryz.func372 rfl rfl Tryz.ntmps372 rfl eNUM (fun c => ?_)
  (refine go ?_; intros)
  (show wpO _ _ ⟨_, .call _, _, _, _, _⟩ _ _ _ _ _ _; refine o_callA (hf) (fun _ _ => ?_); try simp only [List.cons_append, List.nil_append])
  (refine go ?_; intros)
  exact q_ret1 rfl rfl () rfl trivial eNT
theorem ed_nothing (g nm : ByteArray) (P : EdN) (d : ByteArray) (s : PayS) (hs : s.mv.oneCell' = true) : FnDoes Tryz.prog 373 [pt0 P.e, .string d, payA s] [ed0 g nm P] (fun _ : Unit => True) (fun _ => nat64 0) (fun _ => [ed0 g nm P]) := by
  refine does_of Tryz.func373 rfl rfl Tryz.ntmps373 rfl eNUM (fun c => ?_)
  (refine go ?_; intros)
  exact q_ret1 rfl rfl () rfl trivial eNT
theorem ed_death {G : Rg} (hG : okG G) (g nm : ByteArray) (P : EdN) (d : ByteArray) (s : PayS) (hs : PayOk G s) (hm : s.mv.oneCell' = true) : FnDoes Tryz.prog 368 [pt0 P.e, .string d, payA s] [ed0 g nm P, rgH G] (fun y : Nat => y = 9 ∨ y = 2) (fun y => nat64 y) (fun _ => [ed0 g nm P, rgH G]) := by
  have hb := py_bd hG s hs
  refine does_of Tryz.func368 rfl rfl Tryz.ntmps368 rfl eNUM (fun c => ?_)
  (refine go ?_; intros)
  (show wpO _ _ ⟨_, .call _, _, _, _, _⟩ _ _ _ _ _ _; refine o_callA (hb) (fun ⟨b, o⟩ hbo => ?_); try simp only [List.cons_append, List.nil_append])
  try dsimp only at hbo ⊢
  cases o with
  | false =>
    (refine go ?_; intros)
    exact q_ret1 rfl rfl 9 rfl (.inl rfl) eNT
  | true =>
    (refine go ?_; intros)
    exact q_ret1 rfl rfl 2 rfl (.inr rfl) eNT
end Go.Proofs.YtnaabpfpldelmaaGreatDoor
set_option linter.unusedSimpArgs false
set_option linter.unusedVariables false
set_option maxRecDepth 20000
namespace Go.Proofs.YtnaabpfpldelmaaGreatDoor
open Go Go.Sx
attribute [local irreducible] MidQ wpE wpO wpC qE wpQ wpQO wpH wpHO wpD wpDO wpZ Ev own emp exI sl ch PostS LoopQ Rd rowsAt
theorem it_code {G : Rg} (hE : erG G) (e : Option (Nat × Int)) : FnDoes Tryz.prog 497 [refV e] (rgH G :: refL e) (fun _ : Unit => True) (fun _ => .int .i64 (match e with | none => 1 | some p => p.2)) (fun _ => [rgH G]) := by
  cases e with
  | none =>
    unfold refV refL
    have hn := fun t => er_nil (.iface tRR (pt0 t))
    refine does_of Tryz.func497 rfl rfl Tryz.ntmps497 rfl eNUM (fun c => ?_)
    (refine go ?_; intro t)
    (show wpO _ _ ⟨_, .call _, _, _, _, _⟩ _ _ _ _ _ _; refine o_callA (hn t) (fun _ _ => ?_); try simp only [List.cons_append, List.nil_append])
    (refine go ?_; intros)
    exact q_ret1 rfl rfl () rfl trivial eNT
  | some p =>
    obtain ⟨b, k⟩ := p
    unfold refV refL
    have ha := fun t => er_As hE b t
    refine does_of Tryz.func497 rfl rfl Tryz.ntmps497 rfl eNUM (fun c => ?_)
    (refine go ?_; intro t)
    (show wpO _ _ ⟨_, .call _, _, _, _, _⟩ _ _ _ _ _ _; refine o_callA (ha t) (fun _ _ => ?_); try simp only [List.cons_append, List.nil_append])
    (refine go ?_; intros)
    exact q_ret1 rfl rfl () rfl trivial eNT
theorem it_Born {G : Rg} (hG : okG G) (hE : erG G) {v : Value} {k : Nat} (hv : slG G tMet v k) (hk : k ≤ 64) : FnDoes Tryz.prog 449 [v] [rgH G]
    (fun y : Rg × Value × Nat × Int => okG y.1 ∧ grG G y.1 ∧ slG y.1 tItm y.2.1 y.2.2.1 ∧ y.2.2.1 ≤ 32) (fun y => .tuple #[y.2.1, .int .i64 y.2.2.2]) (fun y => [rgH y.1]) := by
  have hb := it_born hG hv hk
  have hv1 := hv.one
  refine does_of Tryz.func449 rfl rfl Tryz.ntmps449 rfl eNUM (fun c => ?_)
  (refine go ?_; intros)
  (show wpO _ _ ⟨_, .call _, _, _, _, _⟩ _ _ _ _ _ _; refine o_callA (hb) (fun ⟨G1, w, m, e⟩ ⟨x1, x2, x3, x4, x5⟩ => ?_); try simp only [List.cons_append, List.nil_append])
  try dsimp only at x1 x2 x3 x4 x5 ⊢
  have hc := it_code (hE.up x2) e
  rcases e with _ | ⟨b, kk⟩
  all_goals
    unfold refL at hc ⊢
    unfold refV at hc ⊢
    (refine go ?_; intros)
    (show wpO _ _ ⟨_, .call _, _, _, _, _⟩ _ _ _ _ _ _; refine o_callA (hc) (fun _ _ => ?_); try simp only [List.cons_append, List.nil_append])
    (refine go ?_; intros)
    exact q_ret2 rfl rfl rfl (G1, w, m, _) rfl ⟨x1, x2, x3, x4⟩ eNT
set_option maxHeartbeats 2000000 in
theorem ed_birth {G : Rg} (hG : okG G) (hE : erG G) (g nm : ByteArray) (P : EdN) (d : ByteArray) (s : PayS) (hs : PayOk G s) (hm : s.mv.oneCell' = true) : FnDoes Tryz.prog 367 [pt0 P.e, .string d, payA s] [ed0 g nm P, rowI P.r 0 false, rgH G]
    (fun y : Rg × EdgS × Int => okG y.1 ∧ grG G y.1 ∧ y.2.1.its.oneCell' = true) (fun y => .int .i64 y.2.2) (fun y => [edgI P.e y.2.1, rgH y.1]) := by
  have hb := py_bd hG s hs
  have hq := py_seq s hs.sq hm
  have hbn := it_Born hG hE hs.mv hs.mn
  refine does_of Tryz.func367 rfl rfl Tryz.ntmps367 rfl eNUM (fun c => ?_)
  (refine go ?_; intros)
  refine wpC_scopeJ (σ := Rg × EdgS × Int) (fun x => okG x.1 ∧ grG G x.1 ∧ x.2.1.its.oneCell' = true) (fun x => [(9, .int .i64 x.2.2)]) (fun x => [edgI P.e x.2.1, rgH x.1]) (fun _ => 0) 0 1 rfl (fun x hx => ?_) (fun J => ?_)
  · obtain ⟨G1, es, cd⟩ := x
    (refine go ?_; intros)
    exact q_scope (fun _ h => by cases h) (q_ret1 rfl rfl (G1, es, cd) rfl hx eNT)
  · (refine go ?_; intros)
    (show wpO _ _ ⟨_, .call _, _, _, _, _⟩ _ _ _ _ _ _; refine o_callA (al_new) (fun ⟨t, m⟩ _ => ?_); try simp only [List.cons_append, List.nil_append])
    (refine go ?_; intros)
    (show wpO _ _ ⟨_, .call _, _, _, _, _⟩ _ _ _ _ _ _; refine o_callA (hb) (fun ⟨b, o⟩ hbo => ?_); try simp only [List.cons_append, List.nil_append])
    try dsimp only at hbo ⊢
    cases o with
    | false =>
      (refine go ?_; intros)
      refine wpC_goto ?_
      repeat (first | refine q_then_goto ?_ | refine q_block_goto ?_)
      exact q_goto (G, ⟨g, nm, false, 0, P.r, false, .slice none 0 0, P.t⟩, 9) ⟨hG, Gr.refl _ _, rfl⟩ (by decide) sUB eNT
    | true =>
      (refine go ?_; intros)
      (show wpO _ _ ⟨_, .call _, _, _, _, _⟩ _ _ _ _ _ _; refine o_callA (hq) (fun ⟨sq, o2⟩ hsq => ?_); try simp only [List.cons_append, List.nil_append])
      try dsimp only at hsq ⊢
      cases o2 with
      | false =>
        (refine go ?_; intros)
        refine wpC_goto ?_
        repeat (first | refine q_then_goto ?_ | refine q_block_goto ?_)
        exact q_goto (G, ⟨g, nm, false, 0, P.r, false, .slice none 0 0, P.t⟩, 4) ⟨hG, Gr.refl _ _, rfl⟩ (by decide) sUB eNT
      | true =>
        (refine go ?_; intros)
        (show wpO _ _ ⟨_, .call _, _, _, _, _⟩ _ _ _ _ _ _; refine o_callA (hbn) (fun ⟨G1, l, k, e⟩ ⟨x1, x2, x3, x4⟩ => ?_); try simp only [List.cons_append, List.nil_append])
        try dsimp only at x1 x2 x3 x4 ⊢
        have y1 := x3.one
        by_cases he : e = 1
        · subst he
          have hst := al_set x1 x3 (by omega) mt0 t m
          (refine go ?_; intros)
          (show wpO _ _ ⟨_, .call _, _, _, _, _⟩ _ _ _ _ _ _; refine o_callA (hst) (fun a ha => ?_); try simp only [List.cons_append, List.nil_append])
          (refine go ?_; intros)
          (show wpO _ _ ⟨_, .call _, _, _, _, _⟩ _ _ _ _ _ _; refine o_callA (ed_clash a) (fun q hq2 => ?_); try simp only [List.cons_append, List.nil_append])
          obtain ⟨hq2, hq3⟩ := hq2
          by_cases hq1 : q = 1
          · subst hq1
            have hbg := sq_begin P.r 0 false sq hsq
            (refine go ?_; intros)
            (show wpO _ _ ⟨_, .call _, _, _, _, _⟩ _ _ _ _ _ _; refine o_callA (hbg) (fun y _ => ?_); try simp only [List.cons_append, List.nil_append])
            (refine go ?_; intros)
            refine wpC_label ?_
            exact q_then (J (G1, ⟨g, nm, true, b, P.r, false, l, t⟩, 1) _ _ ⟨x1, x2, y1⟩ (by decide) sUB eNT)
          · have hq4 : (q : Int) ≠ 1 := by omega
            (refine go ?_; intros)
            refine wpC_goto ?_
            repeat (first | refine q_then_goto ?_ | refine q_block_goto ?_)
            exact q_goto (G1, ⟨g, nm, false, 0, P.r, false, .slice none 0 0, P.t⟩, q) ⟨x1, x2, rfl⟩ (by decide) sUB eNT
        · (refine go ?_; intros)
          refine wpC_goto ?_
          repeat (first | refine q_then_goto ?_ | refine q_block_goto ?_)
          exact q_goto (G1, ⟨g, nm, false, 0, P.r, false, .slice none 0 0, P.t⟩, e) ⟨x1, x2, rfl⟩ (by decide) sUB eNT
end Go.Proofs.YtnaabpfpldelmaaGreatDoor
set_option linter.unusedSimpArgs false
set_option linter.unusedVariables false
set_option maxRecDepth 20000
namespace Go.Proofs.YtnaabpfpldelmaaGreatDoor
open Go Go.Sx
def howF (k : Nat) : FuncId := if k = 1 then 367 else if k = 2 then 368 else if k = 3 then 369 else if k = 5 then 370 else if k = 7 then 371 else if k = 6 then 372 else 373
attribute [local irreducible] MidQ wpE wpO wpC qE wpQ wpQO wpH wpHO wpD wpDO wpZ Ev own emp exI sl ch PostS LoopQ Rd rowsAt
theorem ed_how (e k : Nat) : FnDoes Tryz.prog 291 [pt0 e, nat64 k] [] (fun _ : Unit => True) (fun _ => .func (.func (howF k)) [pt0 e].toArray #[]) (fun _ => []) := by
  unfold howF
  refine does_of Tryz.func291 rfl rfl Tryz.ntmps291 rfl eNUM (fun c => ?_)
  by_cases h1 : k = 1
  · rw [if_pos h1]; (refine go ?_; intros)
    refine o_evB (ev_makeFunc (vb := [pt0 e]) (vf := []) rfl rfl) ?_
    (refine go ?_; intros)
    exact q_ret1 rfl rfl () rfl trivial eNT
  rw [if_neg h1]
  by_cases h2 : k = 2
  · rw [if_pos h2]; (refine go ?_; intros)
    refine o_evB (ev_makeFunc (vb := [pt0 e]) (vf := []) rfl rfl) ?_
    (refine go ?_; intros)
    exact q_ret1 rfl rfl () rfl trivial eNT
  rw [if_neg h2]
  by_cases h3 : k = 3
  · rw [if_pos h3]; (refine go ?_; intros)
    refine o_evB (ev_makeFunc (vb := [pt0 e]) (vf := []) rfl rfl) ?_
    (refine go ?_; intros)
    exact q_ret1 rfl rfl () rfl trivial eNT
  rw [if_neg h3]
  by_cases h5 : k = 5
  · rw [if_pos h5]; (refine go ?_; intros)
    refine o_evB (ev_makeFunc (vb := [pt0 e]) (vf := []) rfl rfl) ?_
    (refine go ?_; intros)
    exact q_ret1 rfl rfl () rfl trivial eNT
  rw [if_neg h5]
  by_cases h7 : k = 7
  · rw [if_pos h7]; (refine go ?_; intros)
    refine o_evB (ev_makeFunc (vb := [pt0 e]) (vf := []) rfl rfl) ?_
    (refine go ?_; intros)
    exact q_ret1 rfl rfl () rfl trivial eNT
  rw [if_neg h7]
  by_cases h6 : k = 6
  · rw [if_pos h6]; (refine go ?_; intros)
    refine o_evB (ev_makeFunc (vb := [pt0 e]) (vf := []) rfl rfl) ?_
    (refine go ?_; intros)
    exact q_ret1 rfl rfl () rfl trivial eNT
  rw [if_neg h6]
  (refine go ?_; intros)
  refine o_evB (ev_makeFunc (vb := [pt0 e]) (vf := []) rfl rfl) ?_
  (refine go ?_; intros)
  exact q_ret1 rfl rfl () rfl trivial eNT
def DoOk (G : Rg) (k : Nat) (y : Rg × EdgS × Int) : Prop := okG y.1 ∧ grG G y.1 ∧ y.2.1.its.oneCell' = true ∧ (y.2.2 = 1 → k = 1)
theorem ed_do {G : Rg} (hG : okG G) (hE : erG G) (g nm : ByteArray) (P : EdN) (d : ByteArray) (s : PayS) (hs : PayOk G s) (k : Nat) : FnDoes Tryz.prog (howF k) [pt0 P.e, .string d, payA s] [ed0 g nm P, rowI P.r 0 false, rgH G]
    (DoOk G k) (fun y => .int .i64 y.2.2) (fun y => [edgI P.e y.2.1, rgH y.1]) := by
  have hm := hs.mv.one
  have lift : ∀ {f : FuncId} {c : Nat} (S : FnDoes Tryz.prog f [pt0 P.e, .string d, payA s] [ed0 g nm P] (fun _ : Unit => True) (fun _ => nat64 c) (fun _ => [ed0 g nm P])), c ≠ 1 → FnDoes Tryz.prog f [pt0 P.e, .string d, payA s] [ed0 g nm P, rowI P.r 0 false, rgH G] (DoOk G k) (fun y => .int .i64 y.2.2) (fun y => [edgI P.e y.2.1, rgH y.1]) := fun {f c} S hc =>
    (S.frame1 (A' := [ed0 g nm P, rowI P.r 0 false, rgH G]) (R := [rgH G]) (B' := fun _ => [ed0 g nm P, rgH G]) eNT (fun _ _ => by ((try simp only [List.cons_append, List.nil_append]); repeat (first | exact Ent.nil | (apply Ent.cons; repeat (first | exact Pick.head | apply Pick.tail)))))).turn (Ent.refl _) (fun y hy => ⟨(G, ⟨g, nm, false, 0, P.r, false, .slice none 0 0, P.t⟩, c), ⟨hG, Gr.refl _ _, rfl, fun h => absurd h (by dsimp only; omega)⟩, rfl, Ent.refl _⟩)
  unfold howF
  by_cases h1 : k = 1
  · rw [if_pos h1]
    exact (ed_birth hG hE g nm P d s hs hm).turn (Ent.refl _) (fun y hy => ⟨y, ⟨hy.1, hy.2.1, hy.2.2, fun _ => h1⟩, rfl, Ent.refl _⟩)
  rw [if_neg h1]
  by_cases h2 : k = 2
  · rw [if_pos h2]
    exact (ed_death hG g nm P d s hs hm).turn eNT (fun y hy => ⟨(G, ⟨g, nm, false, 0, P.r, false, .slice none 0 0, P.t⟩, y), ⟨hG, Gr.refl _ _, rfl, fun h => absurd h (by rcases hy with rfl | rfl <;> (dsimp only; omega))⟩, rfl, Ent.refl _⟩)
  rw [if_neg h2]
  by_cases h3 : k = 3
  · rw [if_pos h3]; exact lift (ed_data g nm P d s hm) (by decide)
  rw [if_neg h3]
  by_cases h5 : k = 5
  · rw [if_pos h5]; exact lift (ed_dbirth g nm P d s hm) (by decide)
  rw [if_neg h5]
  by_cases h7 : k = 7
  · rw [if_pos h7]; exact lift (ed_ddata g nm P d s hm) (by decide)
  rw [if_neg h7]
  by_cases h6 : k = 6
  · rw [if_pos h6]; exact lift (ed_ddeath g nm P d s hm) (by decide)
  rw [if_neg h6]
  exact lift (ed_nothing g nm P d s hm) (by decide)
theorem ed_take {G : Rg} (hG : okG G) (hE : erG G) (g nm : ByteArray) (P : EdN) (k : Nat) (d : ByteArray) (s : PayS) (hs : PayOk G s) : FnDoes Tryz.prog 224 [pt0 P.e, nat64 k, .string d, payA s] [ed0 g nm P, rowI P.r 0 false, rgH G]
    (fun y : Rg × Int => okG y.1 ∧ grG G y.1 ∧ (y.2 = 1 → k = 1)) (fun y => .int .i64 y.2) (fun y => [rgH y.1]) := by
  have hm := hs.mv.one
  have hn := ed_none P.e ⟨g, nm, false, 0, P.r, false, .slice none 0 0, P.t⟩ rfl
  have hd := ed_do hG hE g nm P d s hs k
  refine does_of Tryz.func224 rfl rfl Tryz.ntmps224 rfl eNUM (fun c => ?_)
  (refine go ?_; intros)
  (show wpO _ _ ⟨_, .call _, _, _, _, _⟩ _ _ _ _ _ _; refine o_callA (hn) (fun _ _ => ?_); try simp only [List.cons_append, List.nil_append])
  (refine go ?_; intros)
  (show wpO _ _ ⟨_, .call _, _, _, _, _⟩ _ _ _ _ _ _; refine o_callA (ed_how P.e k) (fun _ _ => ?_); try simp only [List.cons_append, List.nil_append])
  (refine go ?_; intros)
  refine o_callB (bd := [pt0 P.e]) (args := [.string d, payA s]) (fr := []) hd (fun y hy => ?_)
  obtain ⟨G1, es, cd⟩ := y
  obtain ⟨x1, x2, x3, x4⟩ := hy
  try dsimp only at x1 x2 x3 x4 ⊢
  simp only [List.cons_append, List.nil_append]
  (refine go ?_; intros)
  by_cases h : cd ≥ 3
  · (refine go ?_; intros)
    exact q_ret1 rfl rfl (G1, cd) rfl ⟨x1, x2, x4⟩ eNT
  · (refine go ?_; intros)
    exact q_ret1 rfl rfl (G1, cd) rfl ⟨x1, x2, x4⟩ eNT
end Go.Proofs.YtnaabpfpldelmaaGreatDoor
set_option linter.unusedSimpArgs false
set_option linter.unusedVariables false
set_option maxRecDepth 20000
namespace Go.Proofs.YtnaabpfpldelmaaGreatDoor
open Go Go.Sx
structure EntS where
  at_ : Int
  tp : ByteArray
  tx : ByteArray
  qo : Int
  rt : Bool
  k : Nat
  g : ByteArray
  n : ByteArray
  d : ByteArray
  nd : Option Addr
  cd : Int
  gr : ByteArray
  nn : ByteArray
  ak : Bool
structure EntOk (e : EntS) : Prop where
  tp : e.tp.size ≤ 65536
  tx : e.tx.size ≤ 1000000
  k : e.k ≤ 9
  g : e.g.size ≤ 65536
  n : e.n.size ≤ 65536
  d : e.d.size ≤ 65536
  gr : e.gr.size ≤ 65536
  nn : e.nn.size ≤ 65536
abbrev entyC (e : EntS) : List Value := [.int .i64 e.at_, .string e.tp, .string e.tx, .int .i64 e.qo, .bool e.rt, nat64 e.k, .string e.g, .string e.n, .string e.d, .pointer e.nd, .int .i64 e.cd, .string e.gr, .string e.nn, .bool e.ak]
abbrev entI (x : Nat) (e : EntS) : HProp := pts x (.cells (entyC e).toArray 225 (0, 0))
structure SpkS where
  s : Nat
  m : Nat
  h : Nat
  hm : Nat
  b : Nat
  r : Nat
abbrev spkI (P : SpkS) : HProp := pts P.s (.cells [.map (some P.m), pt0 P.h, pt0 P.b, pt0 P.r, nat64 0].toArray 118 (0, 0))
abbrev spkL (P : SpkS) : List HProp := [spkI P, mapR P.m [] 0, hstI P.h P.hm, mapR P.hm [] 0, birI P.b, ratI P.r (.slice none 0 0)]
theorem key_key (a b : ByteArray) : KeyOk Tryz.prog 350 (.agg [.string a, .string b].toArray) := ⟨fun e w => by cases e <;> kernel_rfl, fun w => by kernel_rfl⟩
attribute [local irreducible] MidQ wpE wpO wpC qE wpQ wpQO wpH wpHO wpD wpDO wpZ Ev own emp exI sl ch PostS LoopQ Rd rowsAt
theorem sk_new : FnDoes Tryz.prog 17 [] [] (fun _ : SpkS => True) (fun P => pt0 P.s) (fun P => spkL P) := by
  refine does_of Tryz.func17 rfl rfl Tryz.ntmps17 rfl eNUM (fun c => ?_)
  (refine go ?_; intros)
  (show wpO _ _ ⟨_, .call _, _, _, _, _⟩ _ _ _ _ _ _; refine o_callA (ra_new) (fun r _ => ?_); try simp only [List.cons_append, List.nil_append])
  (refine go ?_; intros)
  refine o_makeMapR (fun m => ?_)
  (refine go ?_; intros)
  (show wpO _ _ ⟨_, .call _, _, _, _, _⟩ _ _ _ _ _ _; refine o_callA (ho_new) (fun ⟨h, hm⟩ _ => ?_); try simp only [List.cons_append, List.nil_append])
  (refine go ?_; intros)
  (show wpO _ _ ⟨_, .call _, _, _, _, _⟩ _ _ _ _ _ _; refine o_callA (bi_new) (fun b _ => ?_); try simp only [List.cons_append, List.nil_append])
  (refine go ?_; intro s)
  exact q_ret1 rfl rfl (⟨s, m, h, hm, b, r⟩ : SpkS) rfl trivial eNT
theorem sk_none (P : SpkS) : FnDoes Tryz.prog 111 [pt0 P.s] [spkI P] (fun _ : Unit => True) (fun _ => .bool false) (fun _ => [spkI P]) := by
  refine does_of Tryz.func111 rfl rfl Tryz.ntmps111 rfl eNUM (fun c => ?_)
  (refine go ?_; intros)
  exact q_ret1 rfl rfl () rfl trivial eNT
theorem sk_pass (s x : Nat) (e : EntS) : FnDoes Tryz.prog 158 [pt0 s, pt0 x] [entI x e] (fun _ : Bool => True) (fun r => .bool r) (fun _ => [entI x e]) := by
  obtain ⟨a0, a1, a2, a3, a4, k, g, n, d, nd, cd, gr, nn, ak⟩ := e
  refine does_of Tryz.func158 rfl rfl Tryz.ntmps158 rfl eNUM (fun c => ?_)
  (refine go ?_; intros)
  (repeat' (first | (refine go1 ?_; intros) | (first | (refine o_cmpS ?_ ?_ <;> (intro h_; simp only [cmpP] at h_)) | (refine o_strS ?_ ?_ <;> intro h_) | (refine o_strN ?_ ?_ <;> intro h_) | (refine wpC_condS ?_ ?_ <;> (intro h_; first | subst h_ | skip))) | (first | exact q_ret1 rfl rfl () rfl trivial eNT | exact q_ret2 rfl rfl rfl () rfl trivial eNT | exact q_ret3 rfl rfl rfl rfl () rfl trivial eNT | exact q_ret0 rfl () rfl trivial eNT _ (by first | exact .inl rfl | exact .inr rfl)) | (exact q_ret1 rfl rfl true rfl trivial eNT) | (exact q_ret1 rfl rfl false rfl trivial eNT)))
set_option maxHeartbeats 1000000 in
theorem sk_state (P : SpkS) (x : Nat) (e : EntS) (he : EntOk e) : FnDoes Tryz.prog 159 [pt0 P.s, pt0 x] [entI x e, spkI P, hstI P.h P.hm, mapR P.hm [] 0] (fun y : Bool × Int => y.1 = true → y.2 = e.cd) (fun y => .bool y.1)
    (fun y => entI x { e with nn := e.n, cd := y.2 } :: spkI P :: (match y.1 with | true => [hstI P.h P.hm, mapR P.hm [] 0] | false => [])) := by
  obtain ⟨a0, a1, a2, a3, a4, k, g, n, d, nd, cd, gr, nn, ak⟩ := e
  try dsimp only
  refine does_of Tryz.func159 rfl rfl Tryz.ntmps159 rfl eNUM (fun c => ?_)
  (refine go ?_; intros)
  by_cases h9 : k = 9
  · subst h9
    have ht := ho_take P.h P.hm n a2
    (refine go ?_; intros)
    refine wpC_drawnA [spkI P, entI x ⟨a0, a1, a2, a3, a4, 9, g, n, d, nd, cd, gr, n, ak⟩] 19 ?_
    ((first | refine dt 0 ?_ | refine dts 0 ?_); (first | refine dt 1 ?_ | refine dts 1 ?_); (first | refine dt 2 ?_ | refine dts 2 ?_); (first | refine dt 3 ?_ | refine dts 3 ?_); (first | refine dt 4 ?_ | refine dts 4 ?_); (first | refine dt 5 ?_ | refine dts 5 ?_); (first | refine dt 6 ?_ | refine dts 6 ?_); (first | refine dt 7 ?_ | refine dts 7 ?_); (first | refine dt 8 ?_ | refine dts 8 ?_); (first | refine dt 9 ?_ | refine dts 9 ?_); (first | refine df 10 ?_ | refine dfs 10 ?_); (first | refine df 11 ?_ | refine dfs 11 ?_); (first | refine df 12 ?_ | refine dfs 12 ?_); (first | refine df 13 ?_ | refine dfs 13 ?_); (first | refine df 14 ?_ | refine dfs 14 ?_))
    refine dcall 15 ht (fun kk hkk => ?_)
    simp only [List.cons_append, List.nil_append]
    ((first | refine df 16 ?_ | refine dfs 16 ?_); (first | refine df 17 ?_ | refine dfs 17 ?_); (first | refine df 18 ?_ | refine dfs 18 ?_))
    (refine wpD_lastU rfl rfl (by kernel_rfl) (by kernel_rfl) rfl ?_; show OUL _ ⟨_, .store _ _ _, _, _, _, _⟩ _ _ _ _ _)
    refine x_store (by rfl) (by rfl) (by rfl) (by rfl) (by rfl) pK (Upd1.of (by simp)) ?_
    (refine go ?_; intros)
    exact q_ret1 rfl rfl (false, (kk : Int)) rfl (fun h => by cases h) eNT
  · (refine go ?_; intros)
    exact q_ret1 rfl rfl (true, cd) rfl (fun _ => rfl) eNT
def knL (P : SpkS) (x : Nat) (e : EntS) : Option EdN → List HProp
  | none => [entI x { e with gr := e.g, cd := 8 }]
  | some E => entI x { e with gr := e.g, nd := some ⟨E.e, 0, none⟩ } :: spkI P :: ednL e.g e.n E
set_option maxHeartbeats 1000000 in
theorem sk_know (P : SpkS) (x : Nat) (e : EntS) : FnDoes Tryz.prog 160 [pt0 P.s, pt0 x] [entI x e, spkI P, mapR P.m [] 0] (fun _ : Option EdN => True) (fun y => .bool y.isSome) (knL P x e) := by
  obtain ⟨a0, a1, a2, a3, a4, k, g, n, d, nd, cd, gr, nn, ak⟩ := e
  have hk := key_key g n
  have hn := ed_new g n
  unfold knL
  refine does_of Tryz.func160 rfl rfl Tryz.ntmps160 rfl eNUM (fun c => ?_)
  (refine go ?_; intros)
  refine wpC_drawnA [entI x ⟨a0, a1, a2, a3, a4, k, g, n, d, nd, cd, gr, nn, ak⟩] 12 ?_
  ((first | refine dt 0 ?_ | refine dts 0 ?_); (first | refine dt 1 ?_ | refine dts 1 ?_); (first | refine dt 2 ?_ | refine dts 2 ?_); (first | refine dt 3 ?_ | refine dts 3 ?_); (first | refine dt 4 ?_ | refine dts 4 ?_); (first | refine dt 5 ?_ | refine dts 5 ?_); (first | refine dt 6 ?_ | refine dts 6 ?_); (first | refine dt 7 ?_ | refine dts 7 ?_); (first | refine dt 8 ?_ | refine dts 8 ?_); (first | refine dt 9 ?_ | refine dts 9 ?_); (first | refine dt 10 ?_ | refine dts 10 ?_))
  (refine wpD_eff 11 rfl rfl (by kernel_rfl) rfl rfl ?_; show OVL _ ⟨_, .alloc _, _, _, _, _⟩ _ _ _ _ _ _)
  refine x_alloc (by rfl) (by rfl) (by rfl) (fun c5 => ⟨eNT, ?_⟩)
  (refine wpD_lastU rfl rfl (by kernel_rfl) (by kernel_rfl) rfl ?_; show OUL _ ⟨_, .store _ _ _, _, _, _, _⟩ _ _ _ _ _)
  refine x_storeP (vs := [.string g, .string n]) (by rfl) (by rfl) (by rfl) (by rfl) (by rfl) (by rfl) pK (by simp) rfl ?_
  (refine go ?_; intros)
  refine wpC_drawnA [spkI P, mapR P.m [] 0, pts c5 (.cells [.string g, .string n].toArray 350 (0, 0))] 10 ?_
  ((first | refine dt 0 ?_ | refine dts 0 ?_); (first | refine dt 1 ?_ | refine dts 1 ?_); (first | refine dt 2 ?_ | refine dts 2 ?_); (first | refine dt 3 ?_ | refine dts 3 ?_); (first | refine df 4 ?_ | refine dfs 4 ?_))
  refine dfB 5 rfl (ev_lookup0 (ok := true) (b := P.m) (ck := 0) hk rfl rfl rfl rfl rfl pK) ?_
  ((first | refine df 6 ?_ | refine dfs 6 ?_); (first | refine dt 7 ?_ | refine dts 7 ?_); (first | refine dt 8 ?_ | refine dts 8 ?_); (first | refine df 9 ?_ | refine dfs 9 ?_); refine dl ?_)
  (refine go ?_; intros)
  (show wpO _ _ ⟨_, .call _, _, _, _, _⟩ _ _ _ _ _ _; refine o_callA (hn) (fun y _ => ?_); try simp only [List.cons_append, List.nil_append])
  cases y with
  | none =>
    (refine go ?_; intros)
    exact q_ret1 rfl rfl none rfl trivial eNT
  | some E =>
    unfold ednL edg0
    (refine go ?_; intros)
    refine o_evB (ev_lenR rfl rfl pK) ?_
    (refine go ?_; intros)
    refine wpC_drawnA [spkI P, pts c5 (.cells [.string g, .string n].toArray 350 (0, 0))] 6 ?_
    ((first | refine dt 0 ?_ | refine dts 0 ?_); (first | refine dt 1 ?_ | refine dts 1 ?_); (first | refine dt 2 ?_ | refine dts 2 ?_); (first | refine dt 3 ?_ | refine dts 3 ?_); (first | refine dt 4 ?_ | refine dts 4 ?_); (first | refine df 5 ?_ | refine dfs 5 ?_))
    (refine wpD_lastU rfl rfl (by kernel_rfl) (by kernel_rfl) rfl ?_; show OUL _ ⟨_, .mapUpdate _ _ _ _, _, _, _, _⟩ _ _ _ _ _)
    refine x_mapUpdate0 hk (by rfl) (by rfl) (by rfl) (by rfl) pK ?_
    (refine go ?_; intros)
    exact q_ret1 rfl rfl (some E) rfl trivial eNT
end Go.Proofs.YtnaabpfpldelmaaGreatDoor
