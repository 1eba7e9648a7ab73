/-
  The package session: the small ones, what is sent, the filling.
-/
import Derived.Test.YtmlcikcdegodaaaDoorSqA
import Derived.Test.YtmlcikcdegodaaaDoorSqQ
set_option linter.unusedSimpArgs false
set_option linter.unusedVariables false
set_option maxRecDepth 20000
namespace Go.Proofs.YtmlcikcdegodaaaDoor
open Go Go.Sx
structure SesP where
  b : Nat
  f : Nat
  q : Nat
abbrev sesC (s : Nat) (p : SesP) (cl : ByteArray) (cn on : Bool) : HProp := pts s (.cells [ptr p.b, ptr p.f, ptr p.q, .string cl, .bool cn, .bool on].toArray 80 (0, 0))
def sesI (s : Nat) (z : Ses) : HProp := exI (σ := SesP) (fun _ => SesOk z) fun p => [sesC s p z.client z.clean z.online, inboxI p.b z.inb, fltI p.f z.L, queueI p.q 16 z.q z.lost]
theorem str_ne {c : ByteArray} (h : c.size ≠ 0) : c ≠ ⟨#[]⟩ := fun e => h (by rw [e]; rfl)
theorem pktsI_one (v : Value) (l : List PPkt) (p : PPkt) : sl 87 24 v (l.length + 1) (l.flatMap pktC ++ pktC p) = pktsI v (l ++ [p]) := by simp [pktsI]
theorem pktsI_app (v : Value) (l m : List PPkt) : sl 87 24 v (l.length + m.length) (l.flatMap pktC ++ m.flatMap pktC) = pktsI v (l ++ m) := by simp [pktsI]
theorem send_ok {L : List PSent} {m : PMsg} {y : SendR} (h : SendOk L m y) (hq : m.qos = 1 ∨ m.qos = 2) (hl : L.length < 8) : y = ⟨leastN L, 0, L ++ [sentOf L m]⟩ := by
  unfold SendOk at h
  rw [if_neg (by omega), if_neg (by omega)] at h
  obtain ⟨k, hk, rfl⟩ := h
  rw [hk.eq (leastN_is L)]
  rfl
attribute [local irreducible] MidQ wpE wpO wpC qE wpQ wpQO wpH wpHO wpD wpDO wpZ Ev own emp exI sl ch PostS LoopQ Rd rowsAt
theorem sesI_mk {s : Nat} {z : Ses} {M : List HProp} (p : SesP) (h : SesOk z) (e : Ent M [sesC s p z.client z.clean z.online, inboxI p.b z.inb, fltI p.f z.L, queueI p.q 16 z.q z.lost]) : Ent M [sesI s z] := Ent.fold (σ := SesP) (φ := fun _ => SesOk z) p h e
theorem ses_noneC (s : Nat) (p : SesP) (cl : ByteArray) (cn on : Bool) (h : cl.size ≠ 0) : FnDoes Tryd.prog 31 [ptr s] [sesC s p cl cn on] (fun _ : Unit => True) (fun _ => .bool false) (fun _ => [sesC s p cl cn on]) := by
  have h1 := str_ne h
  refine does_of Tryd.func31 rfl rfl Tryd.ntmps31 rfl (by simp only [enum, Nat.reduceAdd, Nat.zero_add]; exact rfl) (fun c => ?_)
  (refine go ?_; intros)
  exact q_ret1 rfl rfl () rfl trivial (by ((try simp only [List.cons_append, List.nil_append]); repeat (first | exact Ent.nil | (apply Ent.cons; repeat (first | exact Pick.head | apply Pick.tail)))))
theorem ses_publish (id : Int) (m : PMsg) : FnDoes Tryd.prog 34 [.int .i64 id, m.val] [] (fun _ : Unit => True) (fun _ => .agg (pktC (pubP id m)).toArray) (fun _ => []) := by
  unfold PMsg.val
  refine does_of Tryd.func34 rfl rfl Tryd.ntmps34 rfl (by simp only [enum, Nat.reduceAdd, Nat.zero_add]; exact rfl) (fun c => ?_)
  (refine go ?_; intro a t)
  exact q_retCell (tt := 87) (l := pktC (pubP id m)) rfl rfl rfl rfl rfl (by repeat (first | exact Pick.head | apply Pick.tail)) rfl () rfl trivial Ent.nil
theorem ses_none (s : Nat) (z : Ses) : FnDoes Tryd.prog 31 [ptr s] [sesI s z] (fun _ : Unit => True) (fun _ => .bool false) (fun _ => [sesI s z]) := by
  refine FnDoes.unfold (callable Tryd.func31 rfl rfl) (fun p W => ?_)
  exact (ses_noneC s p z.client z.clean z.online W.cl).frame1 (Picks.ent (by repeat (first | exact Picks.nil | (apply Picks.cons; repeat (first | exact Pick.head | apply Pick.tail))))) (fun _ _ => sesI_mk p W (by ((try simp only [List.cons_append, List.nil_append]); repeat (first | exact Ent.nil | (apply Ent.cons; repeat (first | exact Pick.head | apply Pick.tail))))))
theorem ses_client (s : Nat) (z : Ses) : FnDoes Tryd.prog 13 [ptr s] [sesI s z] (fun _ : Unit => True) (fun _ => .string z.client) (fun _ => [sesI s z]) := by
  refine does_of Tryd.func13 rfl rfl Tryd.ntmps13 rfl (by simp only [enum, Nat.reduceAdd, Nat.zero_add]; exact rfl) (fun c => ?_)
  refine wpC_unfold .head (fun p W => ?_)
  simp only [List.cons_append, List.nil_append]
  (refine go ?_; intros)
  (show wpO _ _ ⟨_, .call _, _, _, _, _⟩ _ _ _ _ _ _; refine o_callA (ses_noneC s p z.client z.clean z.online W.cl) (fun _ _ => ?_); try simp only [List.cons_append, List.nil_append])
  (refine go ?_; intros)
  exact q_ret1 rfl rfl () rfl trivial (sesI_mk p W (by ((try simp only [List.cons_append, List.nil_append]); repeat (first | exact Ent.nil | (apply Ent.cons; repeat (first | exact Pick.head | apply Pick.tail))))))
theorem ses_clean (s : Nat) (z : Ses) : FnDoes Tryd.prog 18 [ptr s] [sesI s z] (fun _ : Unit => True) (fun _ => .bool z.clean) (fun _ => [sesI s z]) := by
  refine does_of Tryd.func18 rfl rfl Tryd.ntmps18 rfl (by simp only [enum, Nat.reduceAdd, Nat.zero_add]; exact rfl) (fun c => ?_)
  refine wpC_unfold .head (fun p W => ?_)
  simp only [List.cons_append, List.nil_append]
  (refine go ?_; intros)
  (show wpO _ _ ⟨_, .call _, _, _, _, _⟩ _ _ _ _ _ _; refine o_callA (ses_noneC s p z.client z.clean z.online W.cl) (fun _ _ => ?_); try simp only [List.cons_append, List.nil_append])
  (refine go ?_; intros)
  exact q_ret1 rfl rfl () rfl trivial (sesI_mk p W (by ((try simp only [List.cons_append, List.nil_append]); repeat (first | exact Ent.nil | (apply Ent.cons; repeat (first | exact Pick.head | apply Pick.tail))))))
theorem ses_queue (s : Nat) (z : Ses) : FnDoes Tryd.prog 17 [ptr s] [sesI s z] (fun _ : Value => True) (fun v => v) (fun v => [sesI s z, sl 51 4 v z.q.length (msgCells z.q)]) := by
  refine does_of Tryd.func17 rfl rfl Tryd.ntmps17 rfl (by simp only [enum, Nat.reduceAdd, Nat.zero_add]; exact rfl) (fun c => ?_)
  refine wpC_unfold .head (fun p W => ?_)
  simp only [List.cons_append, List.nil_append]
  (refine go ?_; intros)
  (show wpO _ _ ⟨_, .call _, _, _, _, _⟩ _ _ _ _ _ _; refine o_callA (ses_noneC s p z.client z.clean z.online W.cl) (fun _ _ => ?_); try simp only [List.cons_append, List.nil_append])
  (refine go ?_; intros)
  (show wpO _ _ ⟨_, .call _, _, _, _, _⟩ _ _ _ _ _ _; refine o_callA (queue_all p.q 16 z.q z.lost) (fun v _ => ?_); try simp only [List.cons_append, List.nil_append])
  (refine go ?_; intros)
  exact q_ret1 rfl rfl v rfl trivial (Ent.fold (σ := SesP) (φ := fun _ => SesOk z) p W (by ((try simp only [List.cons_append, List.nil_append]); repeat (first | exact Ent.nil | (apply Ent.cons; repeat (first | exact Pick.head | apply Pick.tail))))))
structure FiSt where
  P : List PPkt
  q : List PMsg
  L : List PSent
  w : Value
theorem ses_fill (s : Nat) (p : SesP) (z : Ses) (W : SesOk z) : FnDoes Tryd.prog 33 [ptr s] [sesC s p z.client z.clean z.online, fltI p.f z.L, queueI p.q 16 z.q z.lost] (fun _ : Value => True) (fun v => v)
    (fun v => [sesC s p (fillZ z).client (fillZ z).clean (fillZ z).online, fltI p.f (fillZ z).L, queueI p.q 16 (fillZ z).q (fillZ z).lost, pktsI v (fillP z)]) := by
  obtain ⟨cl, cn, on, q0, lost, L0, inb⟩ := z
  refine does_of Tryd.func33 rfl rfl Tryd.ntmps33 rfl (by simp only [enum, Nat.reduceAdd, Nat.zero_add]; exact rfl) (fun c => ?_)
  simp only [List.cons_append, List.nil_append]
  cases on with
  | false =>
    (refine go ?_; intros)
    refine wpC_loop (σ := Unit) (fun _ => True) (fun _ => [(0, ptr s), (3, .slice none 0 0)]) (fun _ => [sesC s p cl cn false, fltI p.f L0, queueI p.q 16 q0 lost]) (fun _ => 0) () trivial (by repeat (first | exact trivial | refine ⟨rfl, ?_⟩)) (by ((try simp only [List.cons_append, List.nil_append]); repeat (first | exact Ent.nil | (apply Ent.cons; repeat (first | exact Pick.head | apply Pick.tail))))) (fun _ _ => ?_)
    (refine go ?_; intros)
    exact q_ret1 rfl rfl (.slice none 0 0) rfl trivial (Ent.cons (by repeat (first | exact Pick.head | apply Pick.tail)) (Ent.cons (by repeat (first | exact Pick.head | apply Pick.tail)) (Ent.cons (by repeat (first | exact Pick.head | apply Pick.tail)) (Ent.slNil Ent.nil))))
  | true =>
    obtain ⟨c1, c2, c3, c4, c5⟩ := W
    simp only at c1 c2 c3 c4 c5
    have ez : fillZ ⟨cl, cn, true, q0, lost, L0, inb⟩ = ⟨cl, cn, true, (fillF q0 L0).q, lost, (fillF q0 L0).L, inb⟩ := rfl
    have ep : fillP ⟨cl, cn, true, q0, lost, L0, inb⟩ = (fillF q0 L0).out := rfl
    rw [ez, ep]
    (refine go ?_; intros)
    refine wpC_loop (σ := FiSt) (fun x => (x.P.length ≤ x.L.length ∧ x.L.length ≤ 8) ∧ (∀ m ∈ x.q, m.qos = 1 ∨ m.qos = 2) ∧ fillF q0 L0 = ⟨x.P ++ (fillF x.q x.L).out, (fillF x.q x.L).q, (fillF x.q x.L).L⟩) (fun x => [(0, ptr s), (3, x.w)])
      (fun x => [sesC s p cl cn true, fltI p.f x.L, queueI p.q 16 x.q lost, pktsI x.w x.P]) (fun x => x.q.length) ⟨[], q0, L0, .slice none 0 0⟩ ⟨⟨Nat.zero_le _, c4⟩, c3, rfl⟩ (by repeat (first | exact trivial | refine ⟨rfl, ?_⟩)) (Ent.cons (by repeat (first | exact Pick.head | apply Pick.tail)) (Ent.cons (by repeat (first | exact Pick.head | apply Pick.tail)) (Ent.cons (by repeat (first | exact Pick.head | apply Pick.tail)) (Ent.slNil Ent.nil)))) (fun x hx => ?_)
    obtain ⟨P, q, L, w⟩ := x
    simp only at hx ⊢
    obtain ⟨⟨h1, h2⟩, h3, h4⟩ := hx
    (refine go ?_; intros)
    (show wpO _ _ ⟨_, .call _, _, _, _, _⟩ _ _ _ _ _ _; refine o_callA (flt_len p.f L) (fun _ _ => ?_); try simp only [List.cons_append, List.nil_append])
    by_cases hl : L.length < 8
    · have hlz : (L.length : Int) < 8 := by omega
      cases q with
      | nil =>
        (refine go ?_; intros)
        (show wpO _ _ ⟨_, .call _, _, _, _, _⟩ _ _ _ _ _ _; refine o_callA (queue_takeNil p.q 16 lost) (fun _ _ => ?_); try simp only [List.cons_append, List.nil_append])
        unfold zeroMsg PMsg.val
        (refine go ?_; intro mb)
        rw [fill_nil (L := L), List.append_nil] at h4
        simp only at h4
        rw [h4]
        exact q_ret1 rfl rfl w rfl trivial (by ((try simp only [List.cons_append, List.nil_append]); repeat (first | exact Ent.nil | (apply Ent.cons; repeat (first | exact Pick.head | apply Pick.tail)))))
      | cons m q =>
        have hm := h3 m List.mem_cons_self
        (refine go ?_; intros)
        (show wpO _ _ ⟨_, .call _, _, _, _, _⟩ _ _ _ _ _ _; refine o_callA (queue_take p.q 16 q lost m) (fun _ _ => ?_); try simp only [List.cons_append, List.nil_append])
        unfold PMsg.val
        (refine go ?_; intro mb)
        refine wpC_drawnA [sesC s p cl cn true, pts mb (.cells m.cells.toArray 51 (0, 0))] 11 ?_
        ((first | refine dt 0 ?_ | refine dts 0 ?_); (first | refine dt 1 ?_ | refine dts 1 ?_); (first | refine dt 2 ?_ | refine dts 2 ?_); (first | refine dt 3 ?_ | refine dts 3 ?_); (first | refine dt 4 ?_ | refine dts 4 ?_); (first | refine df 5 ?_ | refine dfs 5 ?_))
        (refine dcall 6 (flt_send p.f L m) (fun y hy => ?_); try simp only [List.cons_append, List.nil_append])
        obtain rfl := send_ok hy hm hl
        ((first | refine df 7 ?_ | refine dfs 7 ?_); (first | refine dt 8 ?_ | refine dts 8 ?_); (first | refine dt 9 ?_ | refine dts 9 ?_); (first | refine df 10 ?_ | refine dfs 10 ?_); refine dl ?_)
        (refine go ?_; intros)
        (show wpO _ _ ⟨_, .call _, _, _, _, _⟩ _ _ _ _ _ _; refine o_callA (ses_publish (leastN L) m) (fun _ _ => ?_); try simp only [List.cons_append, List.nil_append])
        (refine go ?_; intro eb)
        refine o_append (sz := 24) (news := pktC (pubP (leastN L) m)) (m := 1) rfl rfl rfl rfl rfl rfl rfl rfl (by repeat (first | exact Pick.head | apply Pick.tail)) ?_ ?_ rfl (fun w' => ?_)
        · exact src_pts rfl (by repeat (first | exact Pick.head | apply Pick.tail)) rfl rfl rfl
        · show (P.length + 1) * 280 ≤ 140737488355328
          omega
        rw [pktsI_one]
        (refine go ?_; intros)
        refine q_round ⟨P ++ [pubP (leastN L) m], q, L ++ [sentOf L m], w'⟩ ⟨⟨by simp; omega, by simp; omega⟩, fun x hx => h3 x (List.mem_cons_of_mem _ hx), ?_⟩ (by simp) (by repeat (first | exact trivial | refine ⟨rfl, ?_⟩)) (by ((try simp only [List.cons_append, List.nil_append]); repeat (first | exact Ent.nil | (apply Ent.cons; repeat (first | exact Pick.head | apply Pick.tail)))))
        rw [h4, fill_step hl]
        simp
    · have hlz : ¬ (L.length : Int) < 8 := by omega
      (refine go ?_; intros)
      rw [fill_full (q := q) (L := L) (by omega), List.append_nil] at h4
      simp only at h4
      rw [h4]
      exact q_ret1 rfl rfl w rfl trivial (by ((try simp only [List.cons_append, List.nil_append]); repeat (first | exact Ent.nil | (apply Ent.cons; repeat (first | exact Pick.head | apply Pick.tail)))))
end Go.Proofs.YtmlcikcdegodaaaDoor
