/-
  The package session: connections, messages, answers.
-/
import Derived.Test.YtmlcikcdegodaaaDoorSesA
set_option linter.unusedSimpArgs false
set_option linter.unusedVariables false
namespace Go.Sx
open Go Go.Conc
variable {P : Program} {ops : Array Oper} {Q : Exit → Act → World → Prop} {c : Cx} {n : Nat} {L : Env} {M : List HProp} {rest : List Oper}
variable {dst : Option Nat} {ty : TypeId} {pos : String} {after : Array Edge} {g : Option (Nat × Bool)}
theorem ev_min3 {k : IntKind} {x y z : Operand} {ts : Array TypeId} {a b d r : Int} (hx : opnd L x = some (.int k a)) (hy : opnd L y = some (.int k b)) (hz : opnd L z = some (.int k d)) (h : min (min a b) d = r) : Ev P ⟨dst, .call { callee := .builtin .min, args := #[x, y, z], argTypes := ts }, ty, pos, after, g⟩ c n L M (.int k r) := fun T w s => by
  subst h
  simp [execOp, resolve, invoke, builtin, opnd_eval s.slots hx, opnd_eval s.slots hy, opnd_eval s.slots hz, Builtin.min_, Builtin.min2]
  try (split <;> split <;> simp only [Int.min_def] <;> split <;> split <;> omega)
end Go.Sx
set_option maxRecDepth 20000
namespace Go.Proofs.YtmlcikcdegodaaaDoor
open Go Go.Sx
theorem fillP_len {z : Ses} (h : SesOk z) : (fillP z).length ≤ 8 := by
  unfold fillP
  split
  · obtain ⟨_, k, _, _, h4, h5⟩ := fill_ok z.q z.L h.Ll
    rw [h4]; omega
  · simp
attribute [local irreducible] MidQ wpE wpO wpC qE wpQ wpQO wpH wpHO wpD wpDO wpZ Ev own emp exI sl ch PostS LoopQ Rd rowsAt
theorem queue_putZ (q : Nat) (z : Ses) (m : PMsg) (h1 : 0 ≤ z.lost) (h2 : z.lost ≤ 1000000) : FnDoes Tryd.prog 32 [ptr q, m.val] [queueI q 16 z.q z.lost] (fun _ : Unit => True) (fun _ => .bool (putB z)) (fun _ => [queueI q 16 (putZ z m).q (putZ z m).lost]) := by
  by_cases c : z.q.length < 16
  · have e1 : putZ z m = { z with q := z.q ++ [m] } := if_pos c
    have e2 : putB z = true := decide_eq_true c
    rw [e1, e2]; exact queue_put q 16 z.q z.lost m c
  · have e1 : putZ z m = { z with lost := z.lost + 1 } := if_neg c
    have e2 : putB z = false := decide_eq_false c
    rw [e1, e2]; exact queue_putFull q 16 z.q z.lost m (by omega) (by omega) (by omega)
theorem putZ_keep (z : Ses) (m : PMsg) : (putZ z m).client = z.client ∧ (putZ z m).clean = z.clean ∧ (putZ z m).online = z.online ∧ (putZ z m).L = z.L ∧ (putZ z m).inb = z.inb := by
  unfold putZ; split <;> exact ⟨rfl, rfl, rfl, rfl, rfl⟩
structure DelR where
  v : Value
theorem ses_deliver (s : Nat) (z : Ses) (m : PMsg) (n : Int) (b1 : 0 ≤ z.lost) (b2 : z.lost ≤ 1000000) : FnDoes Tryd.prog 16 [ptr s, m.val, .int .i64 n] [sesI s z] (fun _ : Value => True) (fun v => .tuple #[v, .bool (delB z m n)])
    (fun v => [sesI s (delZ z m n), pktsI v (delP z m n)]) := by
  unfold PMsg.val
  refine does_of Tryd.func16 rfl rfl Tryd.ntmps16 rfl (by simp only [enum, Nat.reduceAdd, Nat.zero_add]; exact rfl) (fun c => ?_)
  refine wpC_unfold .head (fun p W => ?_)
  simp only [List.cons_append, List.nil_append]
  (refine go ?_; intro mb)
  (show wpO _ _ ⟨_, .call _, _, _, _, _⟩ _ _ _ _ _ _; refine o_callA (ses_noneC s p z.client z.clean z.online W.cl) (fun _ _ => ?_); try simp only [List.cons_append, List.nil_append])
  (refine go ?_; intros)
  refine o_evB (ev_min3 rfl rfl rfl rfl) ?_
  (refine go ?_; intros)
  refine o_evB (ev_max (r := (clampQ m n).qos) rfl rfl rfl) ?_
  by_cases c : 0 < (clampQ m n).qos
  · have ez : delZ z m n = fillZ (putZ z (clampQ m n)) := if_pos c
    have ep : delP z m n = fillP (putZ z (clampQ m n)) := if_pos c
    have eb : delB z m n = putB z := if_pos c
    have hW := ok_put W (clamp_qos c)
    rw [ez, ep, eb]
    (refine go ?_; intros)
    refine wpC_drawnA [sesC s p z.client z.clean z.online, pts mb (.cells (clampQ m n).cells.toArray 51 (0, 0))] 7 ?_
    ((first | refine dt 0 ?_ | refine dts 0 ?_); (first | refine dt 1 ?_ | refine dts 1 ?_); (first | refine dt 2 ?_ | refine dts 2 ?_); (first | refine dt 3 ?_ | refine dts 3 ?_); (first | refine dt 4 ?_ | refine dts 4 ?_); (first | refine df 5 ?_ | refine dfs 5 ?_))
    (refine dcall 6 (queue_putZ p.q z (clampQ m n) b1 b2) (fun _ _ => ?_); try simp only [List.cons_append, List.nil_append])
    (refine dl ?_)
    obtain ⟨k1, k2, k3, k4, k5⟩ := putZ_keep z (clampQ m n)
    rw [← k1, ← k2, ← k3, ← k4, ← k5]
    (refine go ?_; intros)
    (show wpO _ _ ⟨_, .call _, _, _, _, _⟩ _ _ _ _ _ _; refine o_callA (ses_fill s p (putZ z (clampQ m n)) hW) (fun w _ => ?_); try simp only [List.cons_append, List.nil_append])
    (refine go ?_; intros)
    refine q_ret2 rfl rfl rfl w rfl trivial (Ent.fold (σ := SesP) (φ := fun _ => SesOk (fillZ (putZ z (clampQ m n)))) p (fillZ_ok hW) ?_)
    rw [(fillZ_keep (putZ z (clampQ m n))).2.2.2.2]
    ((try simp only [List.cons_append, List.nil_append]); repeat (first | exact Ent.nil | (apply Ent.cons; repeat (first | exact Pick.head | apply Pick.tail))))
  · have ez : delZ z m n = z := if_neg c
    have eb : delB z m n = z.online := if_neg c
    rw [ez, eb]
    rcases hz : z.online with _ | _
    · have ep : delP z m n = [] := by unfold delP; rw [if_neg c, hz]; rfl
      rw [ep]
      (refine go ?_; intros)
      refine q_ret2 rfl rfl rfl (.slice none 0 0) rfl trivial (Ent.fold (σ := SesP) (φ := fun _ => SesOk z) p W ?_)
      rw [hz]
      simp only [List.cons_append, List.nil_append]
      exact Ent.cons (by repeat (first | exact Pick.head | apply Pick.tail)) (Ent.cons (by repeat (first | exact Pick.head | apply Pick.tail)) (Ent.cons (by repeat (first | exact Pick.head | apply Pick.tail)) (Ent.cons (by repeat (first | exact Pick.head | apply Pick.tail)) (Ent.slNil Ent.nil))))
    · have ep : delP z m n = [pubP 0 (clampQ m n)] := by unfold delP; rw [if_neg c, hz]; rfl
      rw [ep]
      (refine go ?_; intros)
      (show wpO _ _ ⟨_, .call _, _, _, _, _⟩ _ _ _ _ _ _; refine o_callA (ses_publish 0 (clampQ m n)) (fun _ _ => ?_); try simp only [List.cons_append, List.nil_append])
      (refine go ?_; intro eb)
      refine q_ret2 rfl rfl rfl (.slice (some ⟨eb, 0, none⟩) 1 1) rfl trivial (Ent.fold (σ := SesP) (φ := fun _ => SesOk z) p W ?_)
      rw [hz]
      simp only [List.cons_append, List.nil_append]
      exact Ent.cons (by repeat (first | exact Pick.head | apply Pick.tail)) (Ent.cons (by repeat (first | exact Pick.head | apply Pick.tail)) (Ent.cons (by repeat (first | exact Pick.head | apply Pick.tail)) (Ent.cons (by repeat (first | exact Pick.head | apply Pick.tail)) (Ent.slClose (junk := []) (by repeat (first | exact Pick.head | apply Pick.tail)) rfl rfl (Nat.le_refl _) (by decide) rfl Ent.nil))))
end Go.Proofs.YtmlcikcdegodaaaDoor
