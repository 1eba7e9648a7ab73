/-
  A client's part, where nothing is in it; the client is called a.
  All clients' parts: none is there, or the one of the client a.
  All clients' parts: found, opened, counted; none is there, or the one of the client a.
-/
import Derived.Test.YtnaabpfpldelmaaGreatDoorM30
set_option linter.unusedSimpArgs false
set_option linter.unusedVariables false
namespace Go.Sx
open Go Go.Conc
theorem o_appendN {P : Program} {ops : Array Oper} {Q : Exit → Act → World → Prop} {c : Cx} {n : Nat} {L : Env} {M : List HProp} {rest : List Oper} {ty : TypeId} {pos : String} {after : Array Edge} {g : Option (Nat × Bool)} {d : Nat} {t tx e e' : TypeId} {s' x' : Operand} {i : TypeInfo}
    (h : wpE P ops rest Q c n ((d, .slice none 0 0) :: L) M) (hs : opnd L s' = some (.slice none 0 0) := by rfl) (hx : opnd L x' = some (.slice none 0 0) := by rfl) (ht : P.underlying t = some (.slice e) := by rfl) (hi : P.info? e = some i := by rfl) (hk : P.underlying tx = some (.slice e') := by rfl) (hd : Nat.blt d n = true := by rfl) :
    wpO P ops ⟨some d, .call { callee := .builtin .append, args := #[s', x'], argTypes := #[t, tx] }, ty, pos, after, g⟩ rest Q c n L M := o_val rfl hd fun T w s => by
  refine ⟨_, w, _, _, ?_, s.heap, rfl, h⟩
  have := run_append_zero (P := P) (ty := ty) (w := w) ht hi (Src.ofNil w hk 0)
  simp [execOp, resolve, invoke, builtin, opnd_eval s.slots hs, opnd_eval s.slots hx, this]
end Go.Sx
set_option maxRecDepth 20000
namespace Go.Proofs.YtnaabpfpldelmaaGreatDoor
open Go Go.Sx
abbrev naA : ByteArray := ⟨#[97]⟩
structure NsS where
  s : Nat
  ib : Nat
  fl : Nat
  d : Nat
  q : Nat
  ch : Nat
abbrev nssI (Z : NsS) (cl on : Bool) : HProp := pts Z.s (.cells [pt0 Z.ib, pt0 Z.fl, pt0 Z.q, .string naA, .bool cl, .bool on].toArray 247 (0, 0))
abbrev nflI (Z : NsS) : HProp := pts Z.fl (.cells [.slice none 0 0, pt0 Z.d].toArray 497 (0, 0))
abbrev nquI (Z : NsS) : HProp := pts Z.q (.cells [.chan (some Z.ch), nat64 0].toArray 426 (0, 0))
abbrev nchI (Z : NsS) : HProp := Sx.ch Z.ch 16 []
abbrev nsL (Z : NsS) (cl on : Bool) : List HProp := [nssI Z cl on, nflI Z, nquI Z, nchI Z]
attribute [local irreducible] MidQ wpE wpO wpC qE wpQ wpQO wpH wpHO wpD wpDO wpZ Ev own emp exI sl ch PostS LoopQ Rd rowsAt
theorem nq_new : FnDoes Tryz.prog 246 [nat64 16] [] (fun _ : Nat × Nat => True) (fun y => .tuple #[pt0 y.1, nat64 0]) (fun y => [pts y.1 (.cells [.chan (some y.2), nat64 0].toArray 426 (0, 0)), Sx.ch y.2 16 []]) := by
  refine does_of Tryz.func246 rfl rfl Tryz.ntmps246 rfl eNUM (fun c => ?_)
  (refine go ?_; intros)
  refine o_makeChan rfl rfl rfl (by decide) ?_ (by decide) rfl (fun ch => ?_)
  · decide +kernel
  (refine go ?_; intro q)
  exact q_ret2 rfl rfl rfl (q, ch) rfl trivial (Ent.cons .head (Ent.trans Ent.ch (Ent.cons .head Ent.nil)))
theorem ni_new : FnDoes Tryz.prog 247 [] [] (fun _ : Nat => True) (fun y => pt0 y) (fun _ => []) := by
  refine does_of Tryz.func247 rfl rfl Tryz.ntmps247 rfl eNUM (fun c => ?_)
  (refine go ?_; intro b)
  exact q_ret1 rfl rfl b rfl trivial eNT
theorem nd_new : FnDoes Tryz.prog 318 [nat64 65535] [] (fun _ : Nat => True) (fun y => .tuple #[pt0 y, nat64 0]) (fun _ => []) := by
  refine does_of Tryz.func318 rfl rfl Tryz.ntmps318 rfl eNUM (fun c => ?_)
  (refine go ?_; intros)
  refine o_makeMapR (fun m => ?_)
  (refine go ?_; intro b)
  exact q_ret2 rfl rfl rfl b rfl trivial eNT
theorem nf_new : FnDoes Tryz.prog 248 [] [] (fun _ : Nat × Nat => True) (fun y => pt0 y.1) (fun y => [pts y.1 (.cells [.slice none 0 0, pt0 y.2].toArray 497 (0, 0))]) := by
  refine does_of Tryz.func248 rfl rfl Tryz.ntmps248 rfl eNUM (fun c => ?_)
  (refine go ?_; intros)
  (show wpO _ _ ⟨_, .call _, _, _, _, _⟩ _ _ _ _ _ _; refine o_callA (nd_new) (fun d _ => ?_); try simp only [List.cons_append, List.nil_append])
  (refine go ?_; intro b)
  exact q_ret1 rfl rfl (b, d) rfl trivial eNT
theorem ns_new {G : Rg} (hV : vG G) (cl : Bool) : FnDoes Tryz.prog 181 [.string naA, .bool cl] [rgH G] (fun _ : NsS => True) (fun Z => .tuple #[pt0 Z.s, nat64 0]) (fun Z => rgH G :: nsL Z cl false) := by
  have hr := utf_right G.2 (hV G (Gr.refl _ _)) naA
  rw [show rightD naA = true from by decide +kernel] at hr
  have hz : naA.size = 1 := rfl
  refine does_of Tryz.func181 rfl rfl Tryz.ntmps181 rfl eNUM (fun c => ?_)
  (refine go ?_; intros)
  (show wpO _ _ ⟨_, .call _, _, _, _, _⟩ _ _ _ _ _ _; refine o_callA (hr) (fun _ _ => ?_); try simp only [List.cons_append, List.nil_append])
  (refine go ?_; intros)
  (show wpO _ _ ⟨_, .call _, _, _, _, _⟩ _ _ _ _ _ _; refine o_callA (nq_new) (fun ⟨q, ch⟩ _ => ?_); try simp only [List.cons_append, List.nil_append])
  (refine go ?_; intros)
  (show wpO _ _ ⟨_, .call _, _, _, _, _⟩ _ _ _ _ _ _; refine o_callA (ni_new) (fun ib _ => ?_); try simp only [List.cons_append, List.nil_append])
  (refine go ?_; intros)
  (show wpO _ _ ⟨_, .call _, _, _, _, _⟩ _ _ _ _ _ _; refine o_callA (nf_new) (fun ⟨fl, d⟩ _ => ?_); try simp only [List.cons_append, List.nil_append])
  (refine go ?_; intro s)
  exact q_ret2 rfl rfl rfl (⟨s, ib, fl, d, q, ch⟩ : NsS) rfl trivial eNT
theorem ns_none (Z : NsS) (cl on : Bool) : FnDoes Tryz.prog 119 [pt0 Z.s] [nssI Z cl on] (fun _ : Unit => True) (fun _ => .bool false) (fun _ => [nssI Z cl on]) := by
  refine does_of Tryz.func119 rfl rfl Tryz.ntmps119 rfl eNUM (fun c => ?_)
  (refine go ?_; intros)
  exact q_ret1 rfl rfl () rfl trivial eNT
theorem ns_client (Z : NsS) (cl on : Bool) : FnDoes Tryz.prog 249 [pt0 Z.s] [nssI Z cl on] (fun _ : Unit => True) (fun _ => .string naA) (fun _ => [nssI Z cl on]) := by
  have hn := ns_none Z cl on
  refine does_of Tryz.func249 rfl rfl Tryz.ntmps249 rfl eNUM (fun c => ?_)
  (refine go ?_; intros)
  (show wpO _ _ ⟨_, .call _, _, _, _, _⟩ _ _ _ _ _ _; refine o_callA (hn) (fun _ _ => ?_); try simp only [List.cons_append, List.nil_append])
  (refine go ?_; intros)
  exact q_ret1 rfl rfl () rfl trivial eNT
theorem ns_clean (Z : NsS) (cl on : Bool) : FnDoes Tryz.prog 86 [pt0 Z.s] [nssI Z cl on] (fun _ : Unit => True) (fun _ => .bool cl) (fun _ => [nssI Z cl on]) := by
  have hn := ns_none Z cl on
  refine does_of Tryz.func86 rfl rfl Tryz.ntmps86 rfl eNUM (fun c => ?_)
  (refine go ?_; intros)
  (show wpO _ _ ⟨_, .call _, _, _, _, _⟩ _ _ _ _ _ _; refine o_callA (hn) (fun _ _ => ?_); try simp only [List.cons_append, List.nil_append])
  (refine go ?_; intros)
  exact q_ret1 rfl rfl () rfl trivial eNT
theorem ns_online (Z : NsS) (cl on : Bool) : FnDoes Tryz.prog 118 [pt0 Z.s] [nssI Z cl on] (fun _ : Unit => True) (fun _ => .bool on) (fun _ => [nssI Z cl on]) := by
  have hn := ns_none Z cl on
  refine does_of Tryz.func118 rfl rfl Tryz.ntmps118 rfl eNUM (fun c => ?_)
  (refine go ?_; intros)
  (show wpO _ _ ⟨_, .call _, _, _, _, _⟩ _ _ _ _ _ _; refine o_callA (hn) (fun _ _ => ?_); try simp only [List.cons_append, List.nil_append])
  (refine go ?_; intros)
  exact q_ret1 rfl rfl () rfl trivial eNT
theorem ns_detach (Z : NsS) (cl : Bool) : FnDoes Tryz.prog 85 [pt0 Z.s] [nssI Z cl true] (fun _ : Unit => True) (fun _ => .bool true) (fun _ => [nssI Z cl false]) := by
  have hn := ns_online Z cl true
  refine does_of Tryz.func85 rfl rfl Tryz.ntmps85 rfl eNUM (fun c => ?_)
  (refine go ?_; intros)
  (show wpO _ _ ⟨_, .call _, _, _, _, _⟩ _ _ _ _ _ _; refine o_callA (hn) (fun _ _ => ?_); try simp only [List.cons_append, List.nil_append])
  (refine go ?_; intros)
  exact q_ret1 rfl rfl () rfl trivial eNT
theorem nf_none (Z : NsS) : FnDoes Tryz.prog 319 [pt0 Z.fl] [nflI Z] (fun _ : Unit => True) (fun _ => .bool false) (fun _ => [nflI Z]) := by
  refine does_of Tryz.func319 rfl rfl Tryz.ntmps319 rfl eNUM (fun c => ?_)
  (refine go ?_; intros)
  exact q_ret1 rfl rfl () rfl trivial eNT
theorem nf_len (Z : NsS) : FnDoes Tryz.prog 259 [pt0 Z.fl] [nflI Z] (fun _ : Unit => True) (fun _ => nat64 0) (fun _ => [nflI Z]) := by
  have hn := nf_none Z
  refine does_of Tryz.func259 rfl rfl Tryz.ntmps259 rfl eNUM (fun c => ?_)
  (refine go ?_; intros)
  (show wpO _ _ ⟨_, .call _, _, _, _, _⟩ _ _ _ _ _ _; refine o_callA (hn) (fun _ _ => ?_); try simp only [List.cons_append, List.nil_append])
  (refine go ?_; intros)
  exact q_ret1 rfl rfl () rfl trivial eNT
theorem nf_again (Z : NsS) : FnDoes Tryz.prog 250 [pt0 Z.fl] [nflI Z] (fun _ : Unit => True) (fun _ => .slice none 0 0) (fun _ => [nflI Z]) := by
  have hn := nf_none Z
  refine does_of Tryz.func250 rfl rfl Tryz.ntmps250 rfl eNUM (fun c => ?_)
  (refine go ?_; intros)
  (show wpO _ _ ⟨_, .call _, _, _, _, _⟩ _ _ _ _ _ _; refine o_callA (hn) (fun _ _ => ?_); try simp only [List.cons_append, List.nil_append])
  (refine go ?_; intros)
  refine wpC_loop (σ := Unit) (fun _ => True) (fun _ => [(3, .slice none 0 0), (12, nat64 0), (13, nat64 0)]) (fun _ => [nflI Z]) (fun _ => 0) () trivial sUB eNT (fun _ _ => ?_)
  (refine go ?_; intros)
  exact q_ret1 rfl rfl () rfl trivial eNT
theorem nq_none (Z : NsS) : FnDoes Tryz.prog 282 [pt0 Z.q] [nquI Z] (fun _ : Unit => True) (fun _ => .bool false) (fun _ => [nquI Z]) := by
  refine does_of Tryz.func282 rfl rfl Tryz.ntmps282 rfl eNUM (fun c => ?_)
  (refine go ?_; intros)
  exact q_ret1 rfl rfl () rfl trivial eNT
set_option maxHeartbeats 1000000 in
theorem nq_take (Z : NsS) : FnDoes Tryz.prog 260 [pt0 Z.q] [nquI Z, nchI Z] (fun _ : Unit => True) (fun _ => .tuple #[.agg (msgC mt0 mt0 0 false).toArray, .bool false]) (fun _ => [nquI Z, nchI Z]) := by
  have hn := nq_none Z
  refine does_of Tryz.func260 rfl rfl Tryz.ntmps260 rfl eNUM (fun c => ?_)
  (refine go ?_; intro c2)
  (show wpO _ _ ⟨_, .call _, _, _, _, _⟩ _ _ _ _ _ _; refine o_callA (hn) (fun _ _ => ?_); try simp only [List.cons_append, List.nil_append])
  (refine go ?_; intros)
  refine o_sel_empty rfl rfl rfl pK rfl ?_
  (refine go ?_; intros)
  exact q_retAT (l1 := msgC mt0 mt0 0 false) rfl rfl rfl rfl rfl rfl rfl pK () rfl trivial eNT
set_option maxHeartbeats 1000000 in
theorem ns_fill (Z : NsS) (cl : Bool) : FnDoes Tryz.prog 192 [pt0 Z.s] (nsL Z cl true) (fun _ : Unit => True) (fun _ => .slice none 0 0) (fun _ => nsL Z cl true) := by
  have hl := nf_len Z
  have ht := nq_take Z
  refine does_of Tryz.func192 rfl rfl Tryz.ntmps192 rfl eNUM (fun c => ?_)
  (refine go ?_; intros)
  refine wpC_loop (σ := Unit) (fun _ => True) (fun _ => [(0, pt0 Z.s), (3, .slice none 0 0)]) (fun _ => nsL Z cl true) (fun _ => 0) () trivial sUB eNT (fun _ _ => ?_)
  (refine go ?_; intros)
  (show wpO _ _ ⟨_, .call _, _, _, _, _⟩ _ _ _ _ _ _; refine o_callA (hl) (fun _ _ => ?_); try simp only [List.cons_append, List.nil_append])
  (refine go ?_; intros)
  (show wpO _ _ ⟨_, .call _, _, _, _, _⟩ _ _ _ _ _ _; refine o_callA (ht) (fun _ _ => ?_); try simp only [List.cons_append, List.nil_append])
  (refine go ?_; intros)
  exact q_ret1 rfl rfl () rfl trivial eNT
theorem ns_attach (Z : NsS) (cl : Bool) : FnDoes Tryz.prog 186 [pt0 Z.s] (nsL Z cl false) (fun _ : Unit => True) (fun _ => .slice none 0 0) (fun _ => nsL Z cl true) := by
  have hn := ns_none Z cl false
  have ha := nf_again Z
  have hf := ns_fill Z cl
  refine does_of Tryz.func186 rfl rfl Tryz.ntmps186 rfl eNUM (fun c => ?_)
  (refine go ?_; intros)
  (show wpO _ _ ⟨_, .call _, _, _, _, _⟩ _ _ _ _ _ _; refine o_callA (hn) (fun _ _ => ?_); try simp only [List.cons_append, List.nil_append])
  (refine go ?_; intros)
  (show wpO _ _ ⟨_, .call _, _, _, _, _⟩ _ _ _ _ _ _; refine o_callA (ha) (fun _ _ => ?_); try simp only [List.cons_append, List.nil_append])
  (refine go ?_; intros)
  (show wpO _ _ ⟨_, .call _, _, _, _, _⟩ _ _ _ _ _ _; refine o_callA (hf) (fun _ _ => ?_); try simp only [List.cons_append, List.nil_append])
  (refine go ?_; intros)
  refine o_appendN ?_
  (refine go ?_; intros)
  exact q_ret1 rfl rfl () rfl trivial eNT
end Go.Proofs.YtnaabpfpldelmaaGreatDoor
set_option linter.unusedSimpArgs false
set_option linter.unusedVariables false
set_option maxRecDepth 20000
namespace Go.Proofs.YtnaabpfpldelmaaGreatDoor
open Go Go.Sx
abbrev ssI (t : Nat) (v : Value) (tk : Bool) : HProp := pts t (.cells [v, .bool tk, .pointer none, .bool false, .pointer none, .bool false, .pointer none, .bool false, .pointer none, .bool false, .pointer none, .bool false, .pointer none, .bool false, .pointer none, .bool false, .bool true].toArray 93 (0, 0))
abbrev clsN (b t : Nat) : HProp := pts b (.cells [pt0 t].toArray 53 (0, 0))
attribute [local irreducible] MidQ wpE wpO wpC qE wpQ wpQO wpH wpHO wpD wpDO wpZ Ev own emp exI sl ch PostS LoopQ Rd rowsAt
theorem sn_new : FnDoes Tryz.prog 13 [] [] (fun _ : Nat => True) (fun y => pt0 y) (fun y => [ssI y (.pointer none) false]) := by
  refine does_of Tryz.func13 rfl rfl Tryz.ntmps13 rfl eNUM (fun c => ?_)
  (refine go ?_; intro b)
  exact q_ret1 rfl rfl b rfl trivial eNT
theorem sn_none (t : Nat) (v : Value) (tk : Bool) : FnDoes Tryz.prog 104 [pt0 t] [ssI t v tk] (fun _ : Unit => True) (fun _ => .bool false) (fun _ => [ssI t v tk]) := by
  refine does_of Tryz.func104 rfl rfl Tryz.ntmps104 rfl eNUM (fun c => ?_)
  (refine go ?_; intros)
  exact q_ret1 rfl rfl () rfl trivial eNT
theorem sn_put (t s : Nat) (v : Value) (tk : Bool) : FnDoes Tryz.prog 184 [pt0 t, pt0 s] [ssI t v tk] (fun _ : Unit => True) (fun _ => .tuple #[]) (fun _ => [ssI t (pt0 s) true]) := by
  refine does_of Tryz.func184 rfl rfl Tryz.ntmps184 rfl eNUM (fun c => ?_)
  (refine go ?_; intros)
  exact q_ret0 rfl () rfl trivial eNT _ (.inr rfl)
theorem sn_free (t : Nat) (v : Value) : FnDoes Tryz.prog 183 [pt0 t] [ssI t v false] (fun _ : Unit => True) (fun _ => .tuple #[nat64 0, .bool true]) (fun _ => [ssI t v false]) := by
  refine does_of Tryz.func183 rfl rfl Tryz.ntmps183 rfl eNUM (fun c => ?_)
  (refine go ?_; intros)
  refine wpC_loop (σ := Unit) (fun _ => True) (fun _ => [(0, pt0 t), (5, nat64 0)]) (fun _ => [ssI t v false]) (fun _ => 0) () trivial sUB eNT (fun _ _ => ?_)
  (refine go ?_; intros)
  exact q_ret2 rfl rfl rfl () rfl trivial eNT
theorem sn_each (t : Nat) : FnDoes Tryz.prog 105 [pt0 t] [] (fun _ : Nat => True) (fun b => .func (.func 145) #[] [pt0 b].toArray) (fun b => [clsN b t]) := by
  refine does_of Tryz.func105 rfl rfl Tryz.ntmps105 rfl eNUM (fun c => ?_)
  (refine go ?_; intro b)
  refine o_evB (ev_makeFunc (vb := []) (vf := [pt0 b]) rfl rfl) ?_
  (refine go ?_; intros)
  exact q_ret1 rfl rfl b rfl trivial eNT
def jx : Nat → Nat
  | 0 => 0
  | _ => 1
set_option maxHeartbeats 2000000 in
theorem sn_seq0 (b t : Nat) (v : Value) : SeqDoes Tryz.prog 145 [pt0 b] [] [clsN b t, ssI t v false] := fun l J X hY => by
  refine does_of Tryz.func145 rfl rfl Tryz.ntmps145 rfl eNUM (fun c => ?_)
  simp only [List.cons_append, List.nil_append]
  (refine go ?_; intros)
  refine wpC_loop (σ := Nat) (fun i => i ≤ 8) (fun i => [(0, .func (.yield l) #[] #[]), (1, pt0 b), (4, nat64 i)]) (fun _ => [clsN b t, ssI t v false, J 0]) (fun i => 8 - i) 0 (Nat.zero_le _) sUB eNT (fun i hi => ?_)
  rcases (show i = 0 ∨ i = 1 ∨ i = 2 ∨ i = 3 ∨ i = 4 ∨ i = 5 ∨ i = 6 ∨ i = 7 ∨ i = 8 by omega) with rfl | rfl | rfl | rfl | rfl | rfl | rfl | rfl | rfl
  · (refine go ?_; intros)
    exact q_round 1 (by decide) (by decide) sUB eNT
  · (refine go ?_; intros)
    exact q_round 2 (by decide) (by decide) sUB eNT
  · (refine go ?_; intros)
    exact q_round 3 (by decide) (by decide) sUB eNT
  · (refine go ?_; intros)
    exact q_round 4 (by decide) (by decide) sUB eNT
  · (refine go ?_; intros)
    exact q_round 5 (by decide) (by decide) sUB eNT
  · (refine go ?_; intros)
    exact q_round 6 (by decide) (by decide) sUB eNT
  · (refine go ?_; intros)
    exact q_round 7 (by decide) (by decide) sUB eNT
  · (refine go ?_; intros)
    exact q_round 8 (by decide) (by decide) sUB eNT
  · (refine go ?_; intros)
    exact q_ret0 rfl true rfl trivial eNT _ (.inr rfl)
set_option maxHeartbeats 2000000 in
theorem sn_seq1 (b t s : Nat) : SeqDoes Tryz.prog 145 [pt0 b] [[nat64 0, pt0 s]] [clsN b t, ssI t (pt0 s) true] := fun l J X hY => by
  refine does_of Tryz.func145 rfl rfl Tryz.ntmps145 rfl eNUM (fun c => ?_)
  simp only [List.cons_append, List.nil_append]
  have Y := hY 0 (by simp)
  simp only [List.getElem_cons_zero, Nat.zero_add] at Y
  (refine go ?_; intros)
  refine wpC_loop (σ := Nat) (fun i => i ≤ 8) (fun i => [(0, .func (.yield l) #[] #[]), (1, pt0 b), (4, nat64 i)]) (fun i => [clsN b t, ssI t (pt0 s) true, J (jx i)]) (fun i => 8 - i) 0 (Nat.zero_le _) sUB eNT (fun i hi => ?_)
  rcases (show i = 0 ∨ i = 1 ∨ i = 2 ∨ i = 3 ∨ i = 4 ∨ i = 5 ∨ i = 6 ∨ i = 7 ∨ i = 8 by omega) with rfl | rfl | rfl | rfl | rfl | rfl | rfl | rfl | rfl
  · (refine go ?_; intros)
    (show wpO _ _ ⟨_, .call _, _, _, _, _⟩ _ _ _ _ _ _; refine o_callYA (Y) (fun yb _ => ?_); try simp only [List.cons_append, List.nil_append])
    cases yb with
    | true =>
      (refine go ?_; intros)
      exact q_round 1 (by decide) (by decide) sUB eNT
    | false =>
      (refine go ?_; intros)
      exact q_ret0 rfl false rfl trivial eNT _ (.inl rfl)
  · (refine go ?_; intros)
    exact q_round 2 (by decide) (by decide) sUB eNT
  · (refine go ?_; intros)
    exact q_round 3 (by decide) (by decide) sUB eNT
  · (refine go ?_; intros)
    exact q_round 4 (by decide) (by decide) sUB eNT
  · (refine go ?_; intros)
    exact q_round 5 (by decide) (by decide) sUB eNT
  · (refine go ?_; intros)
    exact q_round 6 (by decide) (by decide) sUB eNT
  · (refine go ?_; intros)
    exact q_round 7 (by decide) (by decide) sUB eNT
  · (refine go ?_; intros)
    exact q_round 8 (by decide) (by decide) sUB eNT
  · (refine go ?_; intros)
    exact q_ret0 rfl true rfl trivial eNT _ (.inr rfl)
end Go.Proofs.YtnaabpfpldelmaaGreatDoor
set_option linter.unusedSimpArgs false
set_option linter.unusedVariables false
set_option maxRecDepth 20000
namespace Go.Proofs.YtnaabpfpldelmaaGreatDoor
open Go Go.Sx
attribute [local irreducible] MidQ wpE wpO wpC qE wpQ wpQO wpH wpHO wpD wpDO wpZ Ev own emp exI sl ch PostS LoopQ Rd rowsAt
set_option maxHeartbeats 1000000 in
theorem sn_find0 (t : Nat) (v : Value) : FnDoes Tryz.prog 182 [pt0 t, .string naA] [ssI t v false] (fun _ : Unit => True) (fun _ => .tuple #[nat64 0, .bool false]) (fun _ => [ssI t v false]) := by
  refine does_ofM Tryz.func182 rfl rfl Tryz.ntmps182 rfl eNUM (fun c hrnd hds => ?_)
  (refine go ?_; intro c3 c4 c5)
  (show wpO _ _ ⟨_, .call _, _, _, _, _⟩ _ _ _ _ _ _; refine o_callA (sn_none t v false) (fun _ _ => ?_); try simp only [List.cons_append, List.nil_append])
  (refine go ?_; intros)
  (show wpO _ _ ⟨_, .call _, _, _, _, _⟩ _ _ _ _ _ _; refine o_callA (sn_each t) (fun b _ => ?_); try simp only [List.cons_append, List.nil_append])
  (refine go ?_; intros)
  refine wpC_rangeFunc (ps := [12, 13]) (σ := Unit) (R := []) (fun _ _ => True) (fun k _ => [])
    (fun k _ => [exI (σ := Unit) (fun _ => True) (fun _ => [pts c3 (.cells [.string naA].toArray 9 (0, 0)), pts c4 (.cells [nat64 0].toArray 3 (0, 0)), pts c5 (.cells [.bool false].toArray 4 (0, 0))])])
    (fun k => [exI (σ := Unit) (fun _ => True) (fun _ => [pts c3 (.cells [.string naA].toArray 9 (0, 0)), pts c4 (.cells [nat64 0].toArray 3 (0, 0)), pts c5 (.cells [.bool false].toArray 4 (0, 0))])])
    (fun j => [exI (σ := Unit) (fun _ => False) (fun _ => [])]) hrnd (sn_seq0 b t v) rfl rfl ?_ ?_ ?_ ?_ ?_ ?_
  · intro e he; cases he
  · refine Ent.cons pK (Ent.cons pK (Ent.fold (σ := Unit) () trivial eNT))
  · intro l c' hr' hd' k hk; cases hk
  · intro l c' hr' hd' k hk; cases hk
  · intro D
    simp only [List.cons_append, List.nil_append]
    refine q_block_normal ?_
    refine q_then ?_
    refine wpC_unfold (.tail (.tail (.tail .head))) (fun _ hno => ?_)
    simp only [List.cons_append, List.nil_append]
    (refine go ?_; intros)
    exact qm_ret1 hds pK (.inl rfl) (q_ret2cc rfl rfl rfl rfl rfl rfl rfl pK pK () rfl trivial eNT)
  · intro D j
    exact q_falseP (.tail (.tail (.tail .head))) (fun _ hh => hh)
set_option maxHeartbeats 2000000 in
theorem sn_find1 (t : Nat) (Z : NsS) (cl on : Bool) : FnDoes Tryz.prog 182 [pt0 t, .string naA] [ssI t (pt0 Z.s) true, nssI Z cl on] (fun _ : Unit => True) (fun _ => .tuple #[nat64 0, .bool true]) (fun _ => [ssI t (pt0 Z.s) true, nssI Z cl on]) := by
  have hcl := ns_client Z cl on
  refine does_ofM Tryz.func182 rfl rfl Tryz.ntmps182 rfl eNUM (fun c hrnd hds => ?_)
  (refine go ?_; intro c3 c4 c5)
  (show wpO _ _ ⟨_, .call _, _, _, _, _⟩ _ _ _ _ _ _; refine o_callA (sn_none t (pt0 Z.s) true) (fun _ _ => ?_); try simp only [List.cons_append, List.nil_append])
  (refine go ?_; intros)
  (show wpO _ _ ⟨_, .call _, _, _, _, _⟩ _ _ _ _ _ _; refine o_callA (sn_each t) (fun b _ => ?_); try simp only [List.cons_append, List.nil_append])
  (refine go ?_; intros)
  refine wpC_rangeFunc (ps := [12, 13]) (σ := Unit) (R := []) (fun _ _ => True) (fun k _ => [(3, pt0 c3), (4, pt0 c4), (5, pt0 c5), (6, nat64 0), (7, pt0 Z.s)])
    (fun k _ => [exI (σ := Unit) (fun _ => k = 0) (fun _ => [pts c3 (.cells [.string naA].toArray 9 (0, 0)), pts c4 (.cells [nat64 0].toArray 3 (0, 0)), pts c5 (.cells [.bool false].toArray 4 (0, 0)), nssI Z cl on])])
    (fun k => [exI (σ := Unit) (fun _ => k = 0) (fun _ => [pts c3 (.cells [.string naA].toArray 9 (0, 0)), pts c4 (.cells [nat64 0].toArray 3 (0, 0)), pts c5 (.cells [.bool false].toArray 4 (0, 0)), nssI Z cl on])])
    (fun j => [exI (σ := Unit) (fun _ => j = none) (fun _ => [pts c4 (.cells [nat64 0].toArray 3 (0, 0)), pts c5 (.cells [.bool true].toArray 4 (0, 0)), nssI Z cl on])]) hrnd (sn_seq1 b t Z.s) rfl rfl ?_ ?_ ?_ ?_ ?_ ?_
  · intro e he; obtain rfl : e = _ := List.mem_singleton.1 he; rfl
  · refine Ent.cons pK (Ent.cons pK (Ent.fold (σ := Unit) () rfl eNT))
  · intro l c' hr' hd' k hk
    obtain rfl : k = 0 := by simpa using hk
    simp only [List.getElem_cons_zero]
    (refine go ?_; intros)
    exact q_mid () trivial sUB eNT
  · intro l c' hr' hd' k hk _ _
    obtain rfl : k = 0 := by simpa using hk
    refine wpC_unfold .head (fun _ hno => ?_)
    simp only [List.cons_append, List.nil_append]
    (refine go ?_; intros)
    refine wpC_drawnA [pts c3 (.cells [.string naA].toArray 9 (0, 0))] 3 ?_
    ((first | refine dt 0 ?_ | refine dts 0 ?_); (first | refine dt 2 ?_ | refine dts 2 ?_))
    refine dcall 1 hcl (fun _ _ => ?_)
    simp only [List.cons_append, List.nil_append]
    (refine dl ?_)
    (refine go ?_; intros)
    exact q_roundX none (Ent.fold (σ := Unit) () rfl eNT)
  · intro D
    simp only [List.cons_append, List.nil_append]
    exact q_falseP (.tail (.tail (.tail .head))) (fun _ hh => by cases hh)
  · intro D j
    cases j with
    | some id => exact q_falseP (.tail (.tail (.tail .head))) (fun _ hh => by cases hh)
    | none =>
      simp only [List.cons_append, List.nil_append]
      refine q_block_ret ?_
      refine q_then_ret ?_
      refine q_unfoldP (.tail (.tail (.tail .head))) (fun _ hh => ?_)
      simp only [List.cons_append, List.nil_append]
      exact qm_ret1 hds pK (.inl rfl) (q_ret2cc rfl rfl rfl rfl rfl rfl rfl pK pK () rfl trivial eNT)
set_option maxHeartbeats 2000000 in
theorem sn_all (t s : Nat) : FnDoes Tryz.prog 75 [pt0 t] [ssI t (pt0 s) true] (fun _ : Value => True) (fun v => v) (fun v => [ssI t (pt0 s) true, sl tInt 1 v 1 [nat64 0]]) := by
  refine does_ofM Tryz.func75 rfl rfl Tryz.ntmps75 rfl eNUM (fun c hrnd hds => ?_)
  (refine go ?_; intros)
  (show wpO _ _ ⟨_, .call _, _, _, _, _⟩ _ _ _ _ _ _; refine o_callA (sn_none t (pt0 s) true) (fun _ _ => ?_); try simp only [List.cons_append, List.nil_append])
  (refine go ?_; intro c3)
  (show wpO _ _ ⟨_, .call _, _, _, _, _⟩ _ _ _ _ _ _; refine o_callA (sn_each t) (fun b _ => ?_); try simp only [List.cons_append, List.nil_append])
  (refine go ?_; intros)
  refine wpC_rangeFunc (ps := [9, 10]) (σ := Unit) (R := []) (fun _ _ => True) (fun k _ => [(3, pt0 c3), (4, nat64 0)]) (fun k _ => [exI (σ := Value) (fun _ => True) (fun v => [pts c3 (.cells [v].toArray 30 (0, 0)), sl tInt 1 v k (List.replicate k (nat64 0))])])
    (fun k => [exI (σ := Value) (fun _ => True) (fun v => [pts c3 (.cells [v].toArray 30 (0, 0)), sl tInt 1 v k (List.replicate k (nat64 0))])]) (fun _ => [exI (σ := Unit) (fun _ => False) (fun _ => [])]) hrnd (sn_seq1 b t s) rfl rfl ?_ ?_ ?_ ?_ ?_ ?_
  · intro e he; obtain rfl : e = _ := List.mem_singleton.1 he; rfl
  · refine Ent.cons pK (Ent.cons pK (Ent.fold (σ := Value) (.slice none 0 0) trivial (Ent.cons pK (Ent.slNil Ent.nil))))
  · intro l c' hr' hd' k hk
    obtain rfl : k = 0 := by simpa using hk
    simp only [List.getElem_cons_zero]
    (refine go ?_; intros)
    exact q_mid () trivial sUB eNT
  · intro l c' hr' hd' k hk _ _
    obtain rfl : k = 0 := by simpa using hk
    refine wpC_unfold .head (fun v _ => ?_)
    simp only [List.cons_append, List.nil_append]
    refine wpC_fact (sl_one (v := v) pK) (fun hw => ?_)
    (refine go ?_; intro bb)
    refine o_append (sz := 1) (news := [nat64 0]) (m := 1) rfl rfl rfl rfl rfl rfl rfl rfl pK (src_pts rfl pK rfl rfl rfl) (by decide +kernel) rfl (fun w' => ?_)
    refine wpE_fact (sl_one (v := w') pK) (fun hw' => ?_)
    (refine go ?_; intros)
    exact q_round1 (Ent.fold (σ := Value) w' trivial eNT)
  · intro D
    simp only [List.cons_append, List.nil_append]
    refine q_block_normal ?_
    refine q_then ?_
    refine wpC_unfold (.tail (.tail (.tail .head))) (fun v _ => ?_)
    simp only [List.cons_append, List.nil_append]
    refine wpC_fact (sl_one (v := v) pK) (fun hw => ?_)
    (refine go ?_; intros)
    exact qm_ret1 hds pK (.inl rfl) (q_ret1 rfl rfl v rfl trivial eNT)
  · intro D j
    exact q_falseP (.tail (.tail (.tail .head))) (fun _ hh => hh)
theorem sn_len (t s : Nat) : FnDoes Tryz.prog 49 [pt0 t] [ssI t (pt0 s) true] (fun _ : Unit => True) (fun _ => nat64 1) (fun _ => [ssI t (pt0 s) true]) := by
  have ha := sn_all t s
  refine does_of Tryz.func49 rfl rfl Tryz.ntmps49 rfl eNUM (fun c => ?_)
  (refine go ?_; intros)
  (show wpO _ _ ⟨_, .call _, _, _, _, _⟩ _ _ _ _ _ _; refine o_callA (ha) (fun v _ => ?_); try simp only [List.cons_append, List.nil_append])
  (refine go ?_; intros)
  exact q_ret1 rfl rfl () rfl trivial eNT
theorem sn_has (t : Nat) (v : Value) : FnDoes Tryz.prog 117 [pt0 t, nat64 0] [ssI t v true] (fun _ : Unit => True) (fun _ => .bool true) (fun _ => [ssI t v true]) := by
  have hn := sn_none t v true
  refine does_of Tryz.func117 rfl rfl Tryz.ntmps117 rfl eNUM (fun c => ?_)
  (refine go ?_; intros)
  (show wpO _ _ ⟨_, .call _, _, _, _, _⟩ _ _ _ _ _ _; refine o_callA (hn) (fun _ _ => ?_); try simp only [List.cons_append, List.nil_append])
  (refine go ?_; intros)
  exact q_ret1 rfl rfl () rfl trivial eNT
theorem sn_at (t s : Nat) : FnDoes Tryz.prog 84 [pt0 t, nat64 0] [ssI t (pt0 s) true] (fun _ : Unit => True) (fun _ => pt0 s) (fun _ => [ssI t (pt0 s) true]) := by
  have hn := sn_has t (pt0 s)
  refine does_of Tryz.func84 rfl rfl Tryz.ntmps84 rfl eNUM (fun c => ?_)
  (refine go ?_; intros)
  (show wpO _ _ ⟨_, .call _, _, _, _, _⟩ _ _ _ _ _ _; refine o_callA (hn) (fun _ _ => ?_); try simp only [List.cons_append, List.nil_append])
  (refine go ?_; intros)
  exact q_ret1 rfl rfl () rfl trivial eNT
set_option maxHeartbeats 1000000 in
theorem sn_open0 {G : Rg} (hV : vG G) (t : Nat) (v : Value) (hv : v.oneCell' = true) (cl : Bool) : FnDoes Tryz.prog 131 [pt0 t, .string naA, .bool cl] [rgH G, ssI t v false] (fun _ : NsS => True) (fun _ => .tuple #[nat64 0, .bool false, nat64 0]) (fun Z => rgH G :: ssI t (pt0 Z.s) true :: nsL Z cl false) := by
  have hn := sn_none t v false
  have hw := ns_new hV cl
  have hf := sn_find0 t v
  have hr := sn_free t v
  have hp := fun s => sn_put t s v false
  refine does_of Tryz.func131 rfl rfl Tryz.ntmps131 rfl eNUM (fun c => ?_)
  (refine go ?_; intros)
  (show wpO _ _ ⟨_, .call _, _, _, _, _⟩ _ _ _ _ _ _; refine o_callA (hn) (fun _ _ => ?_); try simp only [List.cons_append, List.nil_append])
  (refine go ?_; intros)
  (show wpO _ _ ⟨_, .call _, _, _, _, _⟩ _ _ _ _ _ _; refine o_callA (hw) (fun Z _ => ?_); try simp only [List.cons_append, List.nil_append])
  (refine go ?_; intros)
  (show wpO _ _ ⟨_, .call _, _, _, _, _⟩ _ _ _ _ _ _; refine o_callA (hf) (fun _ _ => ?_); try simp only [List.cons_append, List.nil_append])
  (refine go ?_; intros)
  (show wpO _ _ ⟨_, .call _, _, _, _, _⟩ _ _ _ _ _ _; refine o_callA (hr) (fun _ _ => ?_); try simp only [List.cons_append, List.nil_append])
  (refine go ?_; intros)
  (show wpO _ _ ⟨_, .call _, _, _, _, _⟩ _ _ _ _ _ _; refine o_callA (hp Z.s) (fun _ _ => ?_); try simp only [List.cons_append, List.nil_append])
  (refine go ?_; intros)
  exact q_ret3 rfl rfl rfl rfl Z rfl trivial eNT
set_option maxHeartbeats 1000000 in
theorem sn_open1 {G : Rg} (hV : vG G) (t : Nat) (Y : NsS) (on : Bool) : FnDoes Tryz.prog 131 [pt0 t, .string naA, .bool true] [rgH G, ssI t (pt0 Y.s) true, nssI Y false on] (fun _ : NsS => True) (fun _ => .tuple #[nat64 0, .bool false, nat64 0]) (fun Z => rgH G :: ssI t (pt0 Z.s) true :: nsL Z true false) := by
  have hn := sn_none t (pt0 Y.s) true
  have hw := ns_new hV true
  have hf := sn_find1 t Y false on
  have hp := fun s => sn_put t s (pt0 Y.s) true
  refine does_of Tryz.func131 rfl rfl Tryz.ntmps131 rfl eNUM (fun c => ?_)
  (refine go ?_; intros)
  (show wpO _ _ ⟨_, .call _, _, _, _, _⟩ _ _ _ _ _ _; refine o_callA (hn) (fun _ _ => ?_); try simp only [List.cons_append, List.nil_append])
  (refine go ?_; intros)
  (show wpO _ _ ⟨_, .call _, _, _, _, _⟩ _ _ _ _ _ _; refine o_callA (hw) (fun Z _ => ?_); try simp only [List.cons_append, List.nil_append])
  (refine go ?_; intros)
  (show wpO _ _ ⟨_, .call _, _, _, _, _⟩ _ _ _ _ _ _; refine o_callA (hf) (fun _ _ => ?_); try simp only [List.cons_append, List.nil_append])
  (refine go ?_; intros)
  (show wpO _ _ ⟨_, .call _, _, _, _, _⟩ _ _ _ _ _ _; refine o_callA (hp Z.s) (fun _ _ => ?_); try simp only [List.cons_append, List.nil_append])
  (refine go ?_; intros)
  exact q_ret3 rfl rfl rfl rfl Z rfl trivial eNT
end Go.Proofs.YtnaabpfpldelmaaGreatDoor
