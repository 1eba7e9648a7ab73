/-
  The document's session (crierref25).
-/
import Derived.Test.YtmlcikcdegodaaaDoorSqS
import Derived.Test.YtmlcikcdegodaaaDoorSesB
set_option linter.unusedSimpArgs false
set_option linter.unusedVariables false
namespace Go.Sx
theorem del_pos {z : Ses} {m m' : PMsg} {n : Int} (e : clampQ m n = m') (h : 0 < m'.qos) : delZ z m n = fillZ (putZ z m') ∧ delP z m n = fillP (putZ z m') ∧ delB z m n = putB z ∧ (m'.qos = 1 ∨ m'.qos = 2) := by
  subst e
  exact ⟨if_pos h, if_pos h, if_pos h, clamp_qos h⟩
theorem del_zero {z : Ses} {m m' : PMsg} {n : Int} (e : clampQ m n = m') (h : m'.qos = 0) : delZ z m n = z ∧ delP z m n = (if z.online then [pubP 0 m'] else []) ∧ delB z m n = z.online := by
  subst e
  have c : ¬ 0 < (clampQ m n).qos := by omega
  exact ⟨if_neg c, if_neg c, if_neg c⟩
theorem clamp_lo {m : PMsg} {n k : Int} (h : min m.qos n = k) (c : k < 0) : clampQ m n = { m with qos := 0 } := by
  have : max 0 (min (min m.qos n) 2) = 0 := by omega
  unfold clampQ; rw [this]
theorem clamp_hi {m : PMsg} {n k : Int} (h : min m.qos n = k) (c : 2 < k) : clampQ m n = { m with qos := 2 } := by
  have : max 0 (min (min m.qos n) 2) = 2 := by omega
  unfold clampQ; rw [this]
theorem clamp_mid {m : PMsg} {n k : Int} (h : min m.qos n = k) (c : 0 ≤ k) (c' : k ≤ 2) : clampQ m n = { m with qos := k } := by
  have : max 0 (min (min m.qos n) 2) = k := by omega
  unfold clampQ; rw [this]
end Go.Sx
set_option maxRecDepth 20000
namespace Go.Proofs.YtmlcikcdegodaaaDoor
open Go Go.Sx
structure RsP where
  q : Nat
  f : Nat
  i : Nat
abbrev rseC (x : Nat) (p : RsP) (cl : ByteArray) (cn on : Bool) : HProp := pts x (.cells [.string cl, .bool cn, .bool on, ptr p.q, ptr p.f, ptr p.i].toArray 95 (0, 0))
def rseI (x : Nat) (z : Ses) : HProp := exI (σ := RsP) (fun _ => SesOk z) fun p => [rseC x p z.client z.clean z.online, ibxI p.i z.inb, refI p.f z.L, rquI p.q 16 z.q z.lost]
attribute [local irreducible] MidQ wpE wpO wpC qE wpQ wpQO wpH wpHO wpD wpDO wpZ Ev own emp exI sl ch PostS LoopQ Rd rowsAt
theorem rseI_mk {x : Nat} {z : Ses} {M : List HProp} (p : RsP) (h : SesOk z) (e : Ent M [rseC x p z.client z.clean z.online, ibxI p.i z.inb, refI p.f z.L, rquI p.q 16 z.q z.lost]) : Ent M [rseI x z] := Ent.fold (σ := RsP) (φ := fun _ => SesOk z) p h e
theorem rqu_putZ (q : Nat) (z : Ses) (m : PMsg) (h1 : 0 ≤ z.lost) (h2 : z.lost ≤ 1000000) : FnDoes Tryd.prog 37 [ptr q, m.val] [rquI q 16 z.q z.lost] (fun _ : Unit => True) (fun _ => .bool (putB z)) (fun _ => [rquI q 16 (putZ z m).q (putZ z m).lost]) := by
  by_cases c : z.q.length < 16
  · have e1 : putZ z m = { z with q := z.q ++ [m] } := if_pos c
    have e2 : putB z = true := decide_eq_true c
    rw [e1, e2]; exact rqu_put q 16 z.q z.lost m c
  · have e1 : putZ z m = { z with lost := z.lost + 1 } := if_neg c
    have e2 : putB z = false := decide_eq_false c
    rw [e1, e2]; exact rqu_putFull q 16 z.q z.lost m (by omega) (by omega) (by omega)
theorem rse_fill (s : Nat) (p : RsP) (z : Ses) (W : SesOk z) : FnDoes Tryd.prog 38 [ptr s] [rseC s p z.client z.clean z.online, refI p.f z.L, rquI p.q 16 z.q z.lost] (fun _ : Value => True) (fun v => v)
    (fun v => [rseC s p (fillZ z).client (fillZ z).clean (fillZ z).online, refI p.f (fillZ z).L, rquI p.q 16 (fillZ z).q (fillZ z).lost, pktsI v (fillP z)]) := by
  obtain ⟨cl, cn, on, q0, lost, L0, inb⟩ := z
  refine does_of Tryd.func38 rfl rfl Tryd.ntmps38 rfl (by simp only [enum, Nat.reduceAdd, Nat.zero_add]; exact rfl) (fun c => ?_)
  simp only [List.cons_append, List.nil_append]
  cases on with
  | false =>
    (refine go ?_; intros)
    refine wpC_loop (σ := Unit) (fun _ => True) (fun _ => [(0, ptr s), (3, .slice none 0 0)]) (fun _ => [rseC s p cl cn false, refI p.f L0, rquI p.q 16 q0 lost]) (fun _ => 0) () trivial (by repeat (first | exact trivial | refine ⟨rfl, ?_⟩)) (by ((try simp only [List.cons_append, List.nil_append]); repeat (first | exact Ent.nil | (apply Ent.cons; repeat (first | exact Pick.head | apply Pick.tail))))) (fun _ _ => ?_)
    (refine go ?_; intros)
    exact q_ret1 rfl rfl (.slice none 0 0) rfl trivial (Ent.cons (by repeat (first | exact Pick.head | apply Pick.tail)) (Ent.cons (by repeat (first | exact Pick.head | apply Pick.tail)) (Ent.cons (by repeat (first | exact Pick.head | apply Pick.tail)) (Ent.slNil Ent.nil))))
  | true =>
    obtain ⟨c1, c2, c3, c4, c5⟩ := W
    simp only at c1 c2 c3 c4 c5
    have ez : fillZ ⟨cl, cn, true, q0, lost, L0, inb⟩ = ⟨cl, cn, true, (fillF q0 L0).q, lost, (fillF q0 L0).L, inb⟩ := rfl
    have ep : fillP ⟨cl, cn, true, q0, lost, L0, inb⟩ = (fillF q0 L0).out := rfl
    rw [ez, ep]
    (refine go ?_; intros)
    refine wpC_loop (σ := FiSt) (fun x => (x.P.length ≤ x.L.length ∧ x.L.length ≤ 8) ∧ (∀ m ∈ x.q, m.qos = 1 ∨ m.qos = 2) ∧ fillF q0 L0 = ⟨x.P ++ (fillF x.q x.L).out, (fillF x.q x.L).q, (fillF x.q x.L).L⟩) (fun x => [(0, ptr s), (3, x.w)])
      (fun x => [rseC s p cl cn true, refI p.f x.L, rquI p.q 16 x.q lost, pktsI x.w x.P]) (fun x => x.q.length) ⟨[], q0, L0, .slice none 0 0⟩ ⟨⟨Nat.zero_le _, c4⟩, c3, rfl⟩ (by repeat (first | exact trivial | refine ⟨rfl, ?_⟩)) (Ent.cons (by repeat (first | exact Pick.head | apply Pick.tail)) (Ent.cons (by repeat (first | exact Pick.head | apply Pick.tail)) (Ent.cons (by repeat (first | exact Pick.head | apply Pick.tail)) (Ent.slNil Ent.nil)))) (fun x hx => ?_)
    obtain ⟨P, q, L, w⟩ := x
    simp only at hx ⊢
    obtain ⟨⟨h1, h2⟩, h3, h4⟩ := hx
    refine wpC_unfold (.tail .head) (fun vL hL8 => ?_)
    simp only [List.cons_append, List.nil_append]
    refine wpC_unfold (.tail (.tail (.tail .head))) (fun vQ hQ16 => ?_)
    simp only [List.cons_append, List.nil_append]
    cases q with
    | nil =>
      have hz : ¬ (([] : List PMsg).length : Int) > 0 := by simp
      rw [fill_nil (L := L), List.append_nil] at h4
      simp only at h4
      (refine go ?_; intros)
      rw [h4]
      exact q_ret1 rfl rfl w rfl trivial (Ent.cons (by repeat (first | exact Pick.head | apply Pick.tail)) (Ent.fold (σ := Value) vL hL8 (Ent.cons (by repeat (first | exact Pick.head | apply Pick.tail)) (Ent.cons (by repeat (first | exact Pick.head | apply Pick.tail)) (Ent.fold (σ := Value) vQ hQ16 (by ((try simp only [List.cons_append, List.nil_append]); repeat (first | exact Ent.nil | (apply Ent.cons; repeat (first | exact Pick.head | apply Pick.tail))))))))))
    | cons m q =>
      have hz : (((m :: q).length : Nat) : Int) > 0 := by simp only [List.length_cons]; omega
      by_cases hl : L.length < 8
      · have hlz : (L.length : Int) < 8 := by omega
        have hm := h3 m List.mem_cons_self
        (refine go ?_; intros)
        refine wpO_ent (N := [rseC s p cl cn true, refI p.f L, rquI p.q 16 (m :: q) lost, pktsI w P]) (Ent.cons (by repeat (first | exact Pick.head | apply Pick.tail)) (Ent.fold (σ := Value) vL hL8 (Ent.cons (by repeat (first | exact Pick.head | apply Pick.tail)) (Ent.cons (by repeat (first | exact Pick.head | apply Pick.tail)) (Ent.fold (σ := Value) vQ hQ16 (by ((try simp only [List.cons_append, List.nil_append]); repeat (first | exact Ent.nil | (apply Ent.cons; repeat (first | exact Pick.head | apply Pick.tail)))))))))) ?_
        (show wpO _ _ ⟨_, .call _, _, _, _, _⟩ _ _ _ _ _ _; refine o_callA (rqu_take p.q 16 q lost m) (fun _ _ => ?_); try simp only [List.cons_append, List.nil_append])
        unfold PMsg.val
        (refine go ?_; intro mb)
        refine wpC_drawnA [rseC s p cl cn true, pts mb (.cells m.cells.toArray 51 (0, 0))] 10 ?_
        ((first | refine dt 0 ?_ | refine dts 0 ?_); (first | refine dt 1 ?_ | refine dts 1 ?_); (first | refine dt 2 ?_ | refine dts 2 ?_); (first | refine dt 3 ?_ | refine dts 3 ?_); (first | refine df 4 ?_ | refine dfs 4 ?_))
        (refine dcall 5 (ref_send p.f L m) (fun y hy => ?_); try simp only [List.cons_append, List.nil_append])
        obtain rfl := send_ok hy hm hl
        ((first | refine df 6 ?_ | refine dfs 6 ?_); (first | refine dt 7 ?_ | refine dts 7 ?_); (first | refine dt 8 ?_ | refine dts 8 ?_); (first | refine df 9 ?_ | refine dfs 9 ?_); refine dl ?_)
        (refine go ?_; intro eb)
        refine o_append (sz := 24) (news := pktC (pubP (leastN L) m)) (m := 1) rfl rfl rfl rfl rfl rfl rfl rfl (by repeat (first | exact Pick.head | apply Pick.tail)) ?_ ?_ rfl (fun w' => ?_)
        · exact src_pts rfl (by repeat (first | exact Pick.head | apply Pick.tail)) rfl rfl rfl
        · show (P.length + 1) * 280 ≤ 140737488355328
          omega
        rw [pktsI_one]
        (refine go ?_; intros)
        refine q_round ⟨P ++ [pubP (leastN L) m], q, L ++ [sentOf L m], w'⟩ ⟨⟨by simp; omega, by simp; omega⟩, fun x hx => h3 x (List.mem_cons_of_mem _ hx), ?_⟩ (by simp) (by repeat (first | exact trivial | refine ⟨rfl, ?_⟩)) (by ((try simp only [List.cons_append, List.nil_append]); repeat (first | exact Ent.nil | (apply Ent.cons; repeat (first | exact Pick.head | apply Pick.tail)))))
        rw [h4, fill_step hl]
        simp
      · have hlz : ¬ (L.length : Int) < 8 := by omega
        rw [fill_full (q := m :: q) (L := L) (by omega), List.append_nil] at h4
        simp only at h4
        (refine go ?_; intros)
        rw [h4]
        exact q_ret1 rfl rfl w rfl trivial (Ent.cons (by repeat (first | exact Pick.head | apply Pick.tail)) (Ent.fold (σ := Value) vL hL8 (Ent.cons (by repeat (first | exact Pick.head | apply Pick.tail)) (Ent.cons (by repeat (first | exact Pick.head | apply Pick.tail)) (Ent.fold (σ := Value) vQ hQ16 (by ((try simp only [List.cons_append, List.nil_append]); repeat (first | exact Ent.nil | (apply Ent.cons; repeat (first | exact Pick.head | apply Pick.tail))))))))))
theorem rse_deliver (s : Nat) (z : Ses) (m : PMsg) (n : Int) (b1 : 0 ≤ z.lost) (b2 : z.lost ≤ 1000000) : FnDoes Tryd.prog 21 [ptr s, m.val, .int .i64 n] [rseI s z] (fun _ : Value => True) (fun v => .tuple #[v, .bool (delB z m n)])
    (fun v => [rseI s (delZ z m n), pktsI v (delP z m n)]) := by
  unfold PMsg.val
  refine does_of Tryd.func21 rfl rfl Tryd.ntmps21 rfl (by simp only [enum, Nat.reduceAdd, Nat.zero_add]; exact rfl) (fun c => ?_)
  refine wpC_unfold .head (fun p W => ?_)
  simp only [List.cons_append, List.nil_append]
  obtain ⟨k, hk⟩ : ∃ k, min m.qos n = k := ⟨_, rfl⟩
  (refine go ?_; intro mg mb)
  refine o_evB (ev_min (r := k) rfl rfl hk) ?_
  by_cases a : k < 0
  · have e : clampQ m n = { m with qos := 0 } := clamp_lo hk a
    obtain ⟨ez, ep, eb⟩ := del_zero (z := z) e rfl
    rw [ez, ep, eb]
    rcases hz : z.online with _ | _
    · (refine go ?_; intros)
      refine q_ret2 rfl rfl rfl (.slice none 0 0) rfl trivial (Ent.fold (σ := RsP) (φ := fun _ => SesOk z) p W ?_)
      rw [hz]
      simp only [List.cons_append, List.nil_append]
      exact Ent.cons (by repeat (first | exact Pick.head | apply Pick.tail)) (Ent.cons (by repeat (first | exact Pick.head | apply Pick.tail)) (Ent.cons (by repeat (first | exact Pick.head | apply Pick.tail)) (Ent.cons (by repeat (first | exact Pick.head | apply Pick.tail)) (Ent.slNil Ent.nil))))
    · (refine go ?_; intro eb)
      refine q_ret2 rfl rfl rfl (.slice (some ⟨eb, 0, none⟩) 1 1) rfl trivial (Ent.fold (σ := RsP) (φ := fun _ => SesOk z) p W ?_)
      rw [hz]
      simp only [List.cons_append, List.nil_append]
      exact Ent.cons (by repeat (first | exact Pick.head | apply Pick.tail)) (Ent.cons (by repeat (first | exact Pick.head | apply Pick.tail)) (Ent.cons (by repeat (first | exact Pick.head | apply Pick.tail)) (Ent.cons (by repeat (first | exact Pick.head | apply Pick.tail)) (Ent.slClose (junk := []) (by repeat (first | exact Pick.head | apply Pick.tail)) rfl rfl (Nat.le_refl _) (by decide) rfl Ent.nil))))
  by_cases a2 : 2 < k
  · have e : clampQ m n = { m with qos := 2 } := clamp_hi hk a2
    obtain ⟨ez, ep, eb, eq⟩ := del_pos (z := z) e (by simp only; omega)
    have hW := ok_put W eq
    rw [ez, ep, eb]
    (refine go ?_; intros)
    refine wpC_drawnA [rseC s p z.client z.clean z.online, pts mb (.cells ({ m with qos := 2 } : PMsg).cells.toArray 51 (0, 0))] 6 ?_
    ((first | refine dt 0 ?_ | refine dts 0 ?_); (first | refine dt 1 ?_ | refine dts 1 ?_); (first | refine dt 2 ?_ | refine dts 2 ?_); (first | refine dt 3 ?_ | refine dts 3 ?_); (first | refine df 4 ?_ | refine dfs 4 ?_))
    (refine dcall 5 (rqu_putZ p.q z { m with qos := 2 } b1 b2) (fun _ _ => ?_); try simp only [List.cons_append, List.nil_append])
    (refine dl ?_)
    obtain ⟨k1, k2, k3, k4, k5⟩ := putZ_keep z { m with qos := 2 }
    rw [← k1, ← k2, ← k3, ← k4, ← k5]
    (refine go ?_; intros)
    (show wpO _ _ ⟨_, .call _, _, _, _, _⟩ _ _ _ _ _ _; refine o_callA (rse_fill s p (putZ z { m with qos := 2 }) hW) (fun w _ => ?_); try simp only [List.cons_append, List.nil_append])
    (refine go ?_; intros)
    refine q_ret2 rfl rfl rfl w rfl trivial (Ent.fold (σ := RsP) (φ := fun _ => SesOk (fillZ (putZ z { m with qos := 2 }))) p (fillZ_ok hW) ?_)
    rw [(fillZ_keep (putZ z { m with qos := 2 })).2.2.2.2]
    ((try simp only [List.cons_append, List.nil_append]); repeat (first | exact Ent.nil | (apply Ent.cons; repeat (first | exact Pick.head | apply Pick.tail))))
  by_cases a3 : k = 0
  · subst a3
    have e : clampQ m n = { m with qos := 0 } := clamp_mid hk (by omega) (by omega)
    obtain ⟨ez, ep, eb⟩ := del_zero (z := z) e rfl
    rw [ez, ep, eb]
    rcases hz : z.online with _ | _
    · (refine go ?_; intros)
      refine q_ret2 rfl rfl rfl (.slice none 0 0) rfl trivial (Ent.fold (σ := RsP) (φ := fun _ => SesOk z) p W ?_)
      rw [hz]
      simp only [List.cons_append, List.nil_append]
      exact Ent.cons (by repeat (first | exact Pick.head | apply Pick.tail)) (Ent.cons (by repeat (first | exact Pick.head | apply Pick.tail)) (Ent.cons (by repeat (first | exact Pick.head | apply Pick.tail)) (Ent.cons (by repeat (first | exact Pick.head | apply Pick.tail)) (Ent.slNil Ent.nil))))
    · (refine go ?_; intro eb)
      refine q_ret2 rfl rfl rfl (.slice (some ⟨eb, 0, none⟩) 1 1) rfl trivial (Ent.fold (σ := RsP) (φ := fun _ => SesOk z) p W ?_)
      rw [hz]
      simp only [List.cons_append, List.nil_append]
      exact Ent.cons (by repeat (first | exact Pick.head | apply Pick.tail)) (Ent.cons (by repeat (first | exact Pick.head | apply Pick.tail)) (Ent.cons (by repeat (first | exact Pick.head | apply Pick.tail)) (Ent.cons (by repeat (first | exact Pick.head | apply Pick.tail)) (Ent.slClose (junk := []) (by repeat (first | exact Pick.head | apply Pick.tail)) rfl rfl (Nat.le_refl _) (by decide) rfl Ent.nil))))
  have e : clampQ m n = { m with qos := k } := clamp_mid hk (by omega) (by omega)
  obtain ⟨ez, ep, eb, eq⟩ := del_pos (z := z) e (by simp only; omega)
  have hW := ok_put W eq
  rw [ez, ep, eb]
  (refine go ?_; intros)
  refine wpC_drawnA [rseC s p z.client z.clean z.online, pts mb (.cells ({ m with qos := k } : PMsg).cells.toArray 51 (0, 0))] 6 ?_
  ((first | refine dt 0 ?_ | refine dts 0 ?_); (first | refine dt 1 ?_ | refine dts 1 ?_); (first | refine dt 2 ?_ | refine dts 2 ?_); (first | refine dt 3 ?_ | refine dts 3 ?_); (first | refine df 4 ?_ | refine dfs 4 ?_))
  (refine dcall 5 (rqu_putZ p.q z { m with qos := k } b1 b2) (fun _ _ => ?_); try simp only [List.cons_append, List.nil_append])
  (refine dl ?_)
  obtain ⟨k1, k2, k3, k4, k5⟩ := putZ_keep z { m with qos := k }
  rw [← k1, ← k2, ← k3, ← k4, ← k5]
  (refine go ?_; intros)
  (show wpO _ _ ⟨_, .call _, _, _, _, _⟩ _ _ _ _ _ _; refine o_callA (rse_fill s p (putZ z { m with qos := k }) hW) (fun w _ => ?_); try simp only [List.cons_append, List.nil_append])
  (refine go ?_; intros)
  refine q_ret2 rfl rfl rfl w rfl trivial (Ent.fold (σ := RsP) (φ := fun _ => SesOk (fillZ (putZ z { m with qos := k }))) p (fillZ_ok hW) ?_)
  rw [(fillZ_keep (putZ z { m with qos := k })).2.2.2.2]
  ((try simp only [List.cons_append, List.nil_append]); repeat (first | exact Ent.nil | (apply Ent.cons; repeat (first | exact Pick.head | apply Pick.tail))))
end Go.Proofs.YtmlcikcdegodaaaDoor
