/-
  DeviceLives: its walk.
-/
import Derived.Test.YtcejjoikioemhaaDevC
set_option linter.unusedSimpArgs false
set_option linter.unusedVariables false
namespace Go.Proofs.Ytcejjoikioemhaa
open Go Go.Sx
attribute [local irreducible] wpE wpO wpC qE wpQ wpQO wpH wpHO wpD wpDO Ev own emp exI sl ch PostS LoopQ Rd rowsAt

structure LvSt where
  i : Nat
  on : Bool
  l : List Item
  born : Nat
  died : Nat
def oneIf (b : Bool) : Nat := if b then 1 else 0
def byteCell (k : Int) : List Value := [.int .u8 k]

set_option maxHeartbeats 4000000 in
theorem law_lives (H : PHeap) (v : Value) (ks : List Int) (hv : rowsAt H 1 v (ks.map byteCell)) (hks : ∀ k ∈ ks, 0 ≤ k ∧ k ≤ 255) :
    FnDoes Try.prog 5 [v] [own H] (fun _ : Unit => True) (fun _ => .bool true) (fun _ => [own H]) := by
  refine does_of Try.func5 rfl rfl Try.ntmps5 rfl (by simp only [enum, Nat.reduceAdd, Nat.zero_add]; exact rfl) (fun c => ?_)
  obtain ⟨a, cap, rfl⟩ := hv.slice
  have hv' := hv
  simp only [List.length_map] at hv' ⊢
  (refine go ?_; intros)
  (show wpO _ _ ⟨_, .call _, _, _, _, _⟩ _ _ _ _ _ _; refine o_callA (dev_new ⟨#[100]⟩ (by decide)) (fun d _ => ?_); try simp only [List.cons_append, List.nil_append])
  (refine go ?_; intros)
  have hd : (⟨#[100]⟩ : ByteArray) ≠ noText := by decide
  refine wpC_loop (σ := LvSt) (fun s => s.i ≤ 80 ∧ s.born ≤ s.i ∧ s.died + oneIf s.on ≤ s.born ∧ s.l.length ≤ 1)
    (fun s => [(0, .slice a ks.length cap), (3, ptr d), (5, .int .i64 s.born), (6, .int .i64 s.died), (7, .int .i64 s.i)])
    (fun s => [own H, devI d ⟨#[100]⟩ s.on s.l s.born])
    (fun s => 80 - s.i) ⟨0, false, [], 0, 0⟩ (by simp [oneIf]) (by repeat (first | exact trivial | refine ⟨rfl, ?_⟩)) (by ((try simp only [List.cons_append, List.nil_append]); repeat (first | exact Ent.nil | (apply Ent.cons; repeat (first | exact Pick.head | apply Pick.tail))))) (fun s hs => ?_)
  obtain ⟨i, on, l, born, died⟩ := s
  simp only at hs ⊢
  obtain ⟨s1, s2, s3, s4⟩ := hs
  by_cases hi : i < ks.length ∧ i < 80
  · obtain ⟨i1, i2⟩ := hi
    obtain ⟨b, off, cap', e, hc⟩ := hv'.at i (by simpa using i1)
    simp only [List.length_map, Value.slice.injEq] at e
    obtain ⟨rfl, _, rfl⟩ := e
    have hc' : H.cell? ⟨b, off + i * 1, none⟩ = some (.int .u8 ks[i]) := by
      have := hc 0 (.int .u8 ks[i]) (by simp [byteCell])
      simpa using this
    obtain ⟨hk0, hk1⟩ := hks ks[i] (List.getElem_mem _)
    generalize ks[i] = kk at hc' hk0 hk1
    clear hc
    (refine go ?_; intros)
    (show wpO _ _ ⟨_, .call _, _, _, _, _⟩ _ _ _ _ _ _; refine o_callA (dev_view d _ on l born hd (by omega)) (fun vw _ => ?_); try simp only [List.cons_append, List.nil_append])
    refine wpE_fact (sl_one (v := vw) (by repeat (first | exact Pick.head | apply Pick.tail))) (fun hvw => ?_)
    (refine go ?_; intro wb)
    (refine go ?_; intros)
    (show wpO _ _ ⟨_, .call _, _, _, _, _⟩ _ _ _ _ _ _; refine o_callA (dev_online d _ on l born hd) (fun _ _ => ?_); try simp only [List.cons_append, List.nil_append])
    (refine go ?_; intros)
    by_cases h0 : kk % 3 = 0
    · (refine go ?_; intro b1)
      refine o_evB (ev_bytes (ns := [(i : Int)]) rfl rfl rfl rfl (by repeat (first | exact Pick.head | apply Pick.tail)) rfl rfl) ?_
      (refine go ?_; intro b2)
      generalize List.foldl _ _ _ = nm
      (show wpO _ _ ⟨_, .call _, _, _, _, _⟩ _ _ _ _ _ _; refine o_callA (dev_born d _ on l born (pts b2 (.cells (Item.cells ⟨nm, false, 0, 0, false, 0, 0, noText⟩).toArray 49 (0, 0))) (.slice (some ⟨b2, 0, none⟩) 1 1) [⟨nm, false, 0, 0, false, 0, 0, noText⟩] hd (by omega) (by omega) (Rd.ofPts rfl rfl (Nat.le_refl _)) (by show 1 * 72 ≤ _; omega)) (fun _ _ => ?_); try simp only [List.cons_append, List.nil_append])
      (refine go ?_; intros)
      refine q_round ⟨i + 1, true, [⟨nm, false, 0, 0, false, 0, 0, noText⟩], born + 1, died⟩ ?_ (by simp only; omega) (by repeat (first | exact trivial | refine ⟨rfl, ?_⟩)) (by ((try simp only [List.cons_append, List.nil_append]); repeat (first | exact Ent.nil | (apply Ent.cons; repeat (first | exact Pick.head | apply Pick.tail)))))
      cases on <;> simp [oneIf] at s3 ⊢ <;> omega
    by_cases h1 : kk % 3 = 1
    · cases on with
      | true =>
        refine wpO_ent (N := [emp, devI d ⟨#[100]⟩ true l born, pts wb (.cells [.string ⟨#[100]⟩, .bool true, vw].toArray 31 (0, 0)), itemsI vw l, own H]) (Ent.emp (by ((try simp only [List.cons_append, List.nil_append]); repeat (first | exact Ent.nil | (apply Ent.cons; repeat (first | exact Pick.head | apply Pick.tail)))))) ?_
        (refine go ?_; intros)
        (show wpO _ _ ⟨_, .call _, _, _, _, _⟩ _ _ _ _ _ _; refine o_callA (dev_told d _ l born emp (.slice none 0 0) [] hd Rd.nil (by decide)) (fun _ _ => ?_); try simp only [List.cons_append, List.nil_append])
        (refine go ?_; intros)
        refine wpC_drawnA [pts wb (.cells [.string ⟨#[100]⟩, .bool true, vw].toArray 31 (0, 0))] 14 ?_
        ((first | refine dt 0 ?_ | refine dts 0 ?_); (first | refine dt 1 ?_ | refine dts 1 ?_); (first | refine df 2 ?_ | refine dfs 2 ?_); (first | refine df 3 ?_ | refine dfs 3 ?_); (first | refine df 4 ?_ | refine dfs 4 ?_); (first | refine df 5 ?_ | refine dfs 5 ?_); (first | refine df 6 ?_ | refine dfs 6 ?_); (first | refine df 7 ?_ | refine dfs 7 ?_); (first | refine dt 8 ?_ | refine dts 8 ?_); (first | refine dt 10 ?_ | refine dts 10 ?_); (first | refine df 9 ?_ | refine dfs 9 ?_); (first | refine df 11 ?_ | refine dfs 11 ?_); (first | refine df 12 ?_ | refine dfs 12 ?_); (first | refine df 13 ?_ | refine dfs 13 ?_); refine dl ?_)
        (refine go ?_; intros)
        refine q_round ⟨i + 1, true, [], born, died⟩ ?_ (by simp only; omega) (by repeat (first | exact trivial | refine ⟨rfl, ?_⟩)) (by ((try simp only [List.cons_append, List.nil_append]); repeat (first | exact Ent.nil | (apply Ent.cons; repeat (first | exact Pick.head | apply Pick.tail)))))
        simp [oneIf] at s3 ⊢
        omega
      | false =>
        (refine go ?_; intros)
        (show wpO _ _ ⟨_, .call _, _, _, _, _⟩ _ _ _ _ _ _; refine o_callA (dev_toldOff d _ l born none 0 0 hd) (fun _ _ => ?_); try simp only [List.cons_append, List.nil_append])
        (refine go ?_; intros)
        refine wpC_drawnA [pts wb (.cells [.string ⟨#[100]⟩, .bool false, vw].toArray 31 (0, 0)), itemsI vw l] 14 ?_
        ((first | refine dt 0 ?_ | refine dts 0 ?_); (first | refine dt 1 ?_ | refine dts 1 ?_); (first | refine df 2 ?_ | refine dfs 2 ?_); (first | refine df 3 ?_ | refine dfs 3 ?_); (first | refine df 4 ?_ | refine dfs 4 ?_); (first | refine df 5 ?_ | refine dfs 5 ?_); (first | refine df 6 ?_ | refine dfs 6 ?_); (first | refine df 7 ?_ | refine dfs 7 ?_); (first | refine dt 8 ?_ | refine dts 8 ?_); (first | refine dt 10 ?_ | refine dts 10 ?_))
        (refine dcall 9 (dev_view d _ false l born hd (by omega)) (fun vx _ => ?_); try simp only [List.cons_append, List.nil_append])
        (refine dcall 11 (same_items (itemsI vx l) (itemsI vw l) vx vw _ false l Rd.ofSl Rd.ofSl (by omega)) (fun _ _ => ?_); try simp only [List.cons_append, List.nil_append])
        ((first | refine df 12 ?_ | refine dfs 12 ?_); (first | refine df 13 ?_ | refine dfs 13 ?_); refine dl ?_)
        (refine go ?_; intros)
        refine q_round ⟨i + 1, false, l, born, died⟩ ?_ (by simp only; omega) (by repeat (first | exact trivial | refine ⟨rfl, ?_⟩)) (by ((try simp only [List.cons_append, List.nil_append]); repeat (first | exact Ent.nil | (apply Ent.cons; repeat (first | exact Pick.head | apply Pick.tail)))))
        simp [oneIf] at s3 ⊢
        omega
    · cases on with
      | true =>
        (refine go ?_; intros)
        (show wpO _ _ ⟨_, .call _, _, _, _, _⟩ _ _ _ _ _ _; refine o_callA (dev_dies d _ l born hd) (fun _ _ => ?_); try simp only [List.cons_append, List.nil_append])
        (refine go ?_; intros)
        refine q_round ⟨i + 1, false, l, born, died + 1⟩ ?_ (by simp only; omega) (by repeat (first | exact trivial | refine ⟨rfl, ?_⟩)) (by ((try simp only [List.cons_append, List.nil_append]); repeat (first | exact Ent.nil | (apply Ent.cons; repeat (first | exact Pick.head | apply Pick.tail)))))
        simp [oneIf] at s3 ⊢
        omega
      | false =>
        (refine go ?_; intros)
        (show wpO _ _ ⟨_, .call _, _, _, _, _⟩ _ _ _ _ _ _; refine o_callA (dev_diesOff d _ l born hd) (fun _ _ => ?_); try simp only [List.cons_append, List.nil_append])
        (refine go ?_; intros)
        refine q_round ⟨i + 1, false, l, born, died⟩ ?_ (by simp only; omega) (by repeat (first | exact trivial | refine ⟨rfl, ?_⟩)) (by ((try simp only [List.cons_append, List.nil_append]); repeat (first | exact Ent.nil | (apply Ent.cons; repeat (first | exact Pick.head | apply Pick.tail)))))
        simp [oneIf] at s3 ⊢
        omega
  · by_cases hi1 : i < ks.length
    all_goals
      (refine go ?_; intros)
      (show wpO _ _ ⟨_, .call _, _, _, _, _⟩ _ _ _ _ _ _; refine o_callA (dev_lives d _ on l born hd) (fun _ _ => ?_); try simp only [List.cons_append, List.nil_append])
      (refine go ?_; intros)
      (show wpO _ _ ⟨_, .call _, _, _, _, _⟩ _ _ _ _ _ _; refine o_callA (law_awake) (fun _ _ => ?_); try simp only [List.cons_append, List.nil_append])
      (refine go ?_; intros)
      refine q_ret1 rfl rfl () rfl trivial ?_
      ((try simp only [List.cons_append, List.nil_append]); repeat (first | exact Ent.nil | (apply Ent.cons; repeat (first | exact Pick.head | apply Pick.tail))))
end Go.Proofs.Ytcejjoikioemhaa
