/-
  Sessions' lengths; awake.
-/
import Derived.Test.YtaodhkiejnipmaaDoorSesN
set_option linter.unusedSimpArgs false
set_option linter.unusedVariables false
namespace Go.Sx
open Go
theorem attach_len {z : Ses} (h : SesOk z) : ∃ k, k = min z.q.length (8 - z.L.length) ∧ (attachP z).length = z.L.length + k ∧ (attachZ z).q.length = z.q.length - k ∧ (attachZ z).L.length = z.L.length + k := by
  obtain ⟨h1, k, h2, h3, h4, h5⟩ := fill_ok z.q z.L h.Ll
  refine ⟨k, h5, ?_, ?_, ?_⟩
  · show (z.L.map againP ++ (fillF z.q z.L).out).length = _
    rw [List.length_append, List.length_map, h4]
  · show (fillF z.q z.L).q.length = _
    rw [h2, List.length_drop]
  · show (fillF z.q z.L).L.length = _
    rw [h3]
/-- A message above 0 that comes while there is no connection. -/
theorem del_off {z : Ses} {m : PMsg} {n : Int} (h : z.online = false) (c : 0 < (clampQ m n).qos) : delZ z m n = putZ z (clampQ m n) ∧ delP z m n = [] ∧ delB z m n = putB z := by
  have h' : (putZ z (clampQ m n)).online = false := by unfold putZ; split <;> exact h
  unfold delZ delP delB
  rw [if_pos c, if_pos c, if_pos c]
  unfold fillZ fillP
  rw [h']
  exact ⟨rfl, rfl, rfl⟩
def tM : PMsg := ⟨⟨#[116]⟩, ⟨#[]⟩, 1, false⟩
def wkZ : Ses := ⟨⟨#[97]⟩, false, false, [tM], 0, [], []⟩
theorem wake_del : delZ (newZ ⟨#[97]⟩ false) tM 2 = wkZ ∧ delP (newZ ⟨#[97]⟩ false) tM 2 = [] ∧ delB (newZ ⟨#[97]⟩ false) tM 2 = true := by
  obtain ⟨h1, h2, h3⟩ := del_off (z := newZ ⟨#[97]⟩ false) (m := tM) (n := 2) rfl (by decide)
  exact ⟨h1.trans rfl, h2, h3.trans rfl⟩
theorem wake_att (z : Ses) (h1 : z.q = [tM]) (h2 : z.L = []) : attachP z = [pubP 1 tM] ∧ (attachZ z).L.length = 1 := by
  have e : fillF [tM] [] = ⟨[pubP 1 tM], [], [sentOf [] tM]⟩ := by
    rw [fill_step (by simp), leastN_nil]
    simp [fill_nil]
  constructor
  · show z.L.map againP ++ (fillF z.q z.L).out = _
    rw [h1, h2, e]; rfl
  · show (fillF z.q z.L).L.length = 1
    rw [h1, h2, e]; rfl
end Go.Sx
set_option maxRecDepth 20000
namespace Go.Proofs.YtaodhkiejnipmaaDoor
open Go Go.Sx
attribute [local irreducible] MidQ wpE wpO wpC qE wpQ wpQO wpH wpHO wpD wpDO wpZ Ev own emp exI sl ch PostS LoopQ Rd rowsAt
theorem law_awake (H : PHeap) (V : ValidIn H) : FnDoes Tryd.prog 13 [] [own H] (fun _ : Unit => True) (fun _ => .bool true) (fun _ => [own H]) := by
  refine does_of Tryd.func13 rfl rfl Tryd.ntmps13 rfl (by simp only [enum, Nat.reduceAdd, Nat.zero_add]; exact rfl) (fun c => ?_)
  (refine go ?_; intros)
  (show wpO _ _ ⟨_, .call _, _, _, _, _⟩ _ _ _ _ _ _; refine o_callA (ses_newT H V ⟨#[97]⟩ false (by kernel_rfl)) (fun s _ => ?_); try simp only [List.cons_append, List.nil_append])
  obtain ⟨w1, w2, w3⟩ := wake_del
  have wz := wake_att wkZ rfl rfl
  (refine go ?_; intros)
  (show wpO _ _ ⟨_, .call _, _, _, _, _⟩ _ _ _ _ _ _; refine o_callA (ses_deliver s (newZ ⟨#[97]⟩ false) tM 2 (by decide) (by decide)) (fun v1 _ => ?_); try simp only [List.cons_append, List.nil_append])
  rw [w1, w2, w3]
  (refine go ?_; intros)
  (show wpO _ _ ⟨_, .call _, _, _, _, _⟩ _ _ _ _ _ _; refine o_callA (ses_attach s wkZ) (fun v2 _ => ?_); try simp only [List.cons_append, List.nil_append])
  rw [wz.1]
  refine wpE_sl (by repeat (first | exact Pick.head | apply Pick.tail)) (fun _ h _ => by cases h) (fun pb cap junk e q1 q2 q3 => ?_)
  subst e
  (refine go ?_; intros)
  have hid : (pubP 1 tM).id = 1 := rfl
  refine o_evB (ev_indexS 24 rfl rfl rfl rfl rfl rfl (by decide)) ?_
  (refine go ?_; intros)
  (show wpO _ _ ⟨_, .call _, _, _, _, _⟩ _ _ _ _ _ _; refine o_callA (ses_flight s (attachZ wkZ)) (fun v3 _ => ?_); try simp only [List.cons_append, List.nil_append])
  have wz2 := wz.2
  (refine go ?_; intros)
  exact q_ret1 rfl rfl () rfl trivial (by ((try simp only [List.cons_append, List.nil_append]); repeat (first | exact Ent.nil | (apply Ent.cons; repeat (first | exact Pick.head | apply Pick.tail)))))
end Go.Proofs.YtaodhkiejnipmaaDoor
