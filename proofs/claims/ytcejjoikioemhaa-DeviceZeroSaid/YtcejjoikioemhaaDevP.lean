/-
  DevicePlays: its walk.
-/
import Derived.Test.YtcejjoikioemhaaDevC
set_option linter.unusedSimpArgs false
set_option linter.unusedVariables false
namespace Go.Proofs.Ytcejjoikioemhaa
open Go Go.Sx
attribute [local irreducible] wpE wpO wpC qE wpQ wpQO wpH wpHO wpD wpDO Ev own emp exI sl ch PostS LoopQ Rd rowsAt

structure PAct where
  k : Int
  a : Option Addr
  cap : Nat
  l : List Item
abbrev PAct.v (x : PAct) : Value := .slice x.a x.l.length x.cap
def PAct.cells (x : PAct) : List Value := [.int .i64 x.k, x.v]
def actsOk (H : PHeap) (acts : List PAct) : Prop := ∀ m ∈ acts, rowsAt H 8 m.v (m.l.map Item.cells) ∧ m.l.length * 72 ≤ 140737488355328

structure PlSt where
  i : Nat
  on : Bool
  l : List Item
  lives : Nat

set_option maxHeartbeats 4000000 in
theorem law_plays (H : PHeap) (name : ByteArray) (v : Value) (acts : List PAct) (hv : rowsAt H 2 v (acts.map PAct.cells)) (hacts : actsOk H acts) :
    FnDoes Try.prog 3 [.string name, v] [own H] (fun _ : Unit => True) (fun _ => .bool true) (fun _ => [own H]) := by
  refine does_of Try.func3 rfl rfl Try.ntmps3 rfl (by simp only [enum, Nat.reduceAdd, Nat.zero_add]; exact rfl) (fun c => ?_)
  obtain ⟨a, cap, rfl⟩ := hv.slice
  by_cases hn : name = noText
  · subst hn
    (refine go ?_; intros)
    (show wpO _ _ ⟨_, .call _, _, _, _, _⟩ _ _ _ _ _ _; refine o_callA (dev_newBad) (fun _ _ => ?_); try simp only [List.cons_append, List.nil_append])
    (refine go ?_; intros)
    (show wpO _ _ ⟨_, .call _, _, _, _, _⟩ _ _ _ _ _ _; refine o_callA (law_awake) (fun _ _ => ?_); try simp only [List.cons_append, List.nil_append])
    (refine go ?_; intros)
    refine q_ret1 rfl rfl () rfl trivial ?_
    ((try simp only [List.cons_append, List.nil_append]); repeat (first | exact Ent.nil | (apply Ent.cons; repeat (first | exact Pick.head | apply Pick.tail))))
  have hv' := hv
  simp only [List.length_map] at hv' ⊢
  (refine go ?_; intros)
  (show wpO _ _ ⟨_, .call _, _, _, _, _⟩ _ _ _ _ _ _; refine o_callA (dev_new name hn) (fun d _ => ?_); try simp only [List.cons_append, List.nil_append])
  (refine go ?_; intro x)
  refine wpC_loop (σ := PlSt) (fun s => s.i ≤ 60 ∧ s.lives ≤ s.i ∧ s.l.length * 72 ≤ 140737488355328)
    (fun s => [(1, .slice a acts.length cap), (5, ptr d), (7, ptr x), (8, .int .i64 s.i)])
    (fun s => [own H, devI d name s.on s.l s.lives, refI x name s.on s.l s.lives])
    (fun s => 60 - s.i) ⟨0, false, [], 0⟩ (by simp) (by repeat (first | exact trivial | refine ⟨rfl, ?_⟩)) (Ent.cons (by repeat (first | exact Pick.head | apply Pick.tail)) (Ent.cons (by repeat (first | exact Pick.head | apply Pick.tail)) (Ent.fold (.slice none 0 0) trivial (Ent.cons (by repeat (first | exact Pick.head | apply Pick.tail)) (Ent.slNil Ent.nil))))) (fun s hs => ?_)
  obtain ⟨i, on, l, lives⟩ := s
  simp only at hs ⊢
  obtain ⟨s1, s2, s3⟩ := hs
  by_cases hi : i < acts.length ∧ i < 60
  · obtain ⟨i1, i2⟩ := hi
    obtain ⟨b, off, cap', e, hc⟩ := hv'.at i (by simpa using i1)
    simp only [List.length_map, Value.slice.injEq] at e
    obtain ⟨rfl, _, rfl⟩ := e
    obtain ⟨hrow, hbl⟩ := hacts acts[i] (List.getElem_mem _)
    have hc' : ∀ j u, (acts[i].cells)[j]? = some u → H.cell? ⟨b, off + i * 2 + j, none⟩ = some u := by simpa using hc
    generalize acts[i] = act at hrow hbl hc'
    obtain ⟨kk, aa, ac, al⟩ := act
    simp only at hrow hbl
    have hc' : ∀ j u, ([.int .i64 kk, .slice aa al.length ac] : List Value)[j]? = some u → H.cell? ⟨b, off + i * 2 + j, none⟩ = some u := hc'
    clear hc
    (refine go ?_; intro ab)
    by_cases h0 : kk = 0
    · subst h0
      (refine go ?_; intros)
      (show wpO _ _ ⟨_, .call _, _, _, _, _⟩ _ _ _ _ _ _; refine o_callA (dev_born d name on l lives (own H) _ al hn (by omega) (by omega) (Rd.ofRows hrow) hbl) (fun _ _ => ?_); try simp only [List.cons_append, List.nil_append])
      (refine go ?_; intros)
      (show wpO _ _ ⟨_, .call _, _, _, _, _⟩ _ _ _ _ _ _; refine o_callA (ref_born x name on l lives (own H) _ al (by omega) (by omega) (Rd.ofRows hrow) hbl) (fun _ _ => ?_); try simp only [List.cons_append, List.nil_append])
      (refine go ?_; intros)
      refine wpC_unfold .head (fun xv _ => ?_)
      simp only [List.cons_append, List.nil_append]
      refine wpC_drawnA [pts x (.cells [.string name, .bool true, xv, .int .i64 (lives + 1)].toArray 33 (0, 0)), itemsI xv al] 30 ?_
      ((first | refine df 0 ?_ | refine dfs 0 ?_); (first | refine df 1 ?_ | refine dfs 1 ?_); (first | refine df 2 ?_ | refine dfs 2 ?_); (first | refine dt 3 ?_ | refine dts 3 ?_); (first | refine dt 5 ?_ | refine dts 5 ?_); (first | refine dt 6 ?_ | refine dts 6 ?_); (first | refine dt 7 ?_ | refine dts 7 ?_); (first | refine dt 8 ?_ | refine dts 8 ?_); (first | refine dt 9 ?_ | refine dts 9 ?_))
      (refine dcall 4 (dev_online d name true al (lives + 1) hn) (fun _ _ => ?_); try simp only [List.cons_append, List.nil_append])
      ((first | refine df 10 ?_ | refine dfs 10 ?_); (first | refine df 11 ?_ | refine dfs 11 ?_); (first | refine df 12 ?_ | refine dfs 12 ?_); (first | refine dt 13 ?_ | refine dts 13 ?_); (first | refine dt 15 ?_ | refine dts 15 ?_); (first | refine dt 16 ?_ | refine dts 16 ?_); (first | refine dt 17 ?_ | refine dts 17 ?_); (first | refine dt 18 ?_ | refine dts 18 ?_))
      (refine dcall 14 (dev_lives d name true al (lives + 1) hn) (fun _ _ => ?_); try simp only [List.cons_append, List.nil_append])
      ((first | refine df 19 ?_ | refine dfs 19 ?_); (first | refine df 20 ?_ | refine dfs 20 ?_); (first | refine df 21 ?_ | refine dfs 21 ?_); (first | refine dt 22 ?_ | refine dts 22 ?_); (first | refine dt 24 ?_ | refine dts 24 ?_); (first | refine dt 25 ?_ | refine dts 25 ?_); (first | refine dt 26 ?_ | refine dts 26 ?_); (first | refine dt 27 ?_ | refine dts 27 ?_))
      (refine dcall 23 (dev_view d name true al (lives + 1) hn (by assumption)) (fun vv _ => ?_); try simp only [List.cons_append, List.nil_append])
      (refine dcall 28 (same_items (itemsI vv al) (itemsI xv al) vv xv name true al Rd.ofSl Rd.ofSl (by assumption)) (fun _ _ => ?_); try simp only [List.cons_append, List.nil_append])
      ((first | refine df 29 ?_ | refine dfs 29 ?_); refine dl ?_)
      (refine go ?_; intros)
      refine q_round ⟨i + 1, true, al, lives + 1⟩ (by simp only; omega) (by simp only; omega) (by repeat (first | exact trivial | refine ⟨rfl, ?_⟩)) ?_
      exact Ent.cons (by repeat (first | exact Pick.head | apply Pick.tail)) (Ent.cons (by repeat (first | exact Pick.head | apply Pick.tail)) (Ent.fold xv trivial (by ((try simp only [List.cons_append, List.nil_append]); repeat (first | exact Ent.nil | (apply Ent.cons; repeat (first | exact Pick.head | apply Pick.tail)))))))
    by_cases h1 : kk = 1
    · subst h1
      cases on with
      | true =>
        (refine go ?_; intros)
        refine wpC_drawnA [pts ab (.cells [.int .i64 1, .slice aa al.length ac].toArray 35 (0, 0))] 9 ?_
        ((first | refine dt 0 ?_ | refine dts 0 ?_); (first | refine dt 1 ?_ | refine dts 1 ?_); (first | refine dt 2 ?_ | refine dts 2 ?_); (first | refine dt 4 ?_ | refine dts 4 ?_); (first | refine dt 5 ?_ | refine dts 5 ?_); (first | refine dt 6 ?_ | refine dts 6 ?_))
        (refine dcall 3 (dev_told d name l lives (own H) _ al hn (Rd.ofRows hrow) hbl) (fun _ _ => ?_); try simp only [List.cons_append, List.nil_append])
        (refine dcall 7 (ref_told x name l lives (own H) _ al (Rd.ofRows hrow) hbl) (fun _ _ => ?_); try simp only [List.cons_append, List.nil_append])
        ((first | refine df 8 ?_ | refine dfs 8 ?_); refine dl ?_)
        (refine go ?_; intros)
        refine wpC_unfold .head (fun xv _ => ?_)
        simp only [List.cons_append, List.nil_append]
        refine wpC_drawnA [pts x (.cells [.string name, .bool true, xv, .int .i64 (lives)].toArray 33 (0, 0)), itemsI xv al] 30 ?_
        ((first | refine df 0 ?_ | refine dfs 0 ?_); (first | refine df 1 ?_ | refine dfs 1 ?_); (first | refine df 2 ?_ | refine dfs 2 ?_); (first | refine dt 3 ?_ | refine dts 3 ?_); (first | refine dt 5 ?_ | refine dts 5 ?_); (first | refine dt 6 ?_ | refine dts 6 ?_); (first | refine dt 7 ?_ | refine dts 7 ?_); (first | refine dt 8 ?_ | refine dts 8 ?_); (first | refine dt 9 ?_ | refine dts 9 ?_))
        (refine dcall 4 (dev_online d name true al (lives) hn) (fun _ _ => ?_); try simp only [List.cons_append, List.nil_append])
        ((first | refine df 10 ?_ | refine dfs 10 ?_); (first | refine df 11 ?_ | refine dfs 11 ?_); (first | refine df 12 ?_ | refine dfs 12 ?_); (first | refine dt 13 ?_ | refine dts 13 ?_); (first | refine dt 15 ?_ | refine dts 15 ?_); (first | refine dt 16 ?_ | refine dts 16 ?_); (first | refine dt 17 ?_ | refine dts 17 ?_); (first | refine dt 18 ?_ | refine dts 18 ?_))
        (refine dcall 14 (dev_lives d name true al (lives) hn) (fun _ _ => ?_); try simp only [List.cons_append, List.nil_append])
        ((first | refine df 19 ?_ | refine dfs 19 ?_); (first | refine df 20 ?_ | refine dfs 20 ?_); (first | refine df 21 ?_ | refine dfs 21 ?_); (first | refine dt 22 ?_ | refine dts 22 ?_); (first | refine dt 24 ?_ | refine dts 24 ?_); (first | refine dt 25 ?_ | refine dts 25 ?_); (first | refine dt 26 ?_ | refine dts 26 ?_); (first | refine dt 27 ?_ | refine dts 27 ?_))
        (refine dcall 23 (dev_view d name true al (lives) hn (by assumption)) (fun vv _ => ?_); try simp only [List.cons_append, List.nil_append])
        (refine dcall 28 (same_items (itemsI vv al) (itemsI xv al) vv xv name true al Rd.ofSl Rd.ofSl (by assumption)) (fun _ _ => ?_); try simp only [List.cons_append, List.nil_append])
        ((first | refine df 29 ?_ | refine dfs 29 ?_); refine dl ?_)
        (refine go ?_; intros)
        refine q_round ⟨i + 1, true, al, lives⟩ (by simp only; omega) (by simp only; omega) (by repeat (first | exact trivial | refine ⟨rfl, ?_⟩)) ?_
        exact Ent.cons (by repeat (first | exact Pick.head | apply Pick.tail)) (Ent.cons (by repeat (first | exact Pick.head | apply Pick.tail)) (Ent.fold xv trivial (by ((try simp only [List.cons_append, List.nil_append]); repeat (first | exact Ent.nil | (apply Ent.cons; repeat (first | exact Pick.head | apply Pick.tail)))))))
      | false =>
        (refine go ?_; intros)
        refine wpC_drawnA [pts ab (.cells [.int .i64 1, .slice aa al.length ac].toArray 35 (0, 0))] 9 ?_
        ((first | refine dt 0 ?_ | refine dts 0 ?_); (first | refine dt 1 ?_ | refine dts 1 ?_); (first | refine dt 2 ?_ | refine dts 2 ?_); (first | refine dt 4 ?_ | refine dts 4 ?_); (first | refine dt 5 ?_ | refine dts 5 ?_); (first | refine dt 6 ?_ | refine dts 6 ?_))
        (refine dcall 3 (dev_toldOff d name l lives aa al.length ac hn) (fun _ _ => ?_); try simp only [List.cons_append, List.nil_append])
        (refine dcall 7 (ref_toldOff x name l lives _) (fun _ _ => ?_); try simp only [List.cons_append, List.nil_append])
        ((first | refine df 8 ?_ | refine dfs 8 ?_); refine dl ?_)
        (refine go ?_; intros)
        refine wpC_unfold .head (fun xv _ => ?_)
        simp only [List.cons_append, List.nil_append]
        refine wpC_drawnA [pts x (.cells [.string name, .bool false, xv, .int .i64 (lives)].toArray 33 (0, 0)), itemsI xv l] 30 ?_
        ((first | refine df 0 ?_ | refine dfs 0 ?_); (first | refine df 1 ?_ | refine dfs 1 ?_); (first | refine df 2 ?_ | refine dfs 2 ?_); (first | refine dt 3 ?_ | refine dts 3 ?_); (first | refine dt 5 ?_ | refine dts 5 ?_); (first | refine dt 6 ?_ | refine dts 6 ?_); (first | refine dt 7 ?_ | refine dts 7 ?_); (first | refine dt 8 ?_ | refine dts 8 ?_); (first | refine dt 9 ?_ | refine dts 9 ?_))
        (refine dcall 4 (dev_online d name false l (lives) hn) (fun _ _ => ?_); try simp only [List.cons_append, List.nil_append])
        ((first | refine df 10 ?_ | refine dfs 10 ?_); (first | refine df 11 ?_ | refine dfs 11 ?_); (first | refine df 12 ?_ | refine dfs 12 ?_); (first | refine dt 13 ?_ | refine dts 13 ?_); (first | refine dt 15 ?_ | refine dts 15 ?_); (first | refine dt 16 ?_ | refine dts 16 ?_); (first | refine dt 17 ?_ | refine dts 17 ?_); (first | refine dt 18 ?_ | refine dts 18 ?_))
        (refine dcall 14 (dev_lives d name false l (lives) hn) (fun _ _ => ?_); try simp only [List.cons_append, List.nil_append])
        ((first | refine df 19 ?_ | refine dfs 19 ?_); (first | refine df 20 ?_ | refine dfs 20 ?_); (first | refine df 21 ?_ | refine dfs 21 ?_); (first | refine dt 22 ?_ | refine dts 22 ?_); (first | refine dt 24 ?_ | refine dts 24 ?_); (first | refine dt 25 ?_ | refine dts 25 ?_); (first | refine dt 26 ?_ | refine dts 26 ?_); (first | refine dt 27 ?_ | refine dts 27 ?_))
        (refine dcall 23 (dev_view d name false l (lives) hn (by assumption)) (fun vv _ => ?_); try simp only [List.cons_append, List.nil_append])
        (refine dcall 28 (same_items (itemsI vv l) (itemsI xv l) vv xv name false l Rd.ofSl Rd.ofSl (by assumption)) (fun _ _ => ?_); try simp only [List.cons_append, List.nil_append])
        ((first | refine df 29 ?_ | refine dfs 29 ?_); refine dl ?_)
        (refine go ?_; intros)
        refine q_round ⟨i + 1, false, l, lives⟩ (by simp only; omega) (by simp only; omega) (by repeat (first | exact trivial | refine ⟨rfl, ?_⟩)) ?_
        exact Ent.cons (by repeat (first | exact Pick.head | apply Pick.tail)) (Ent.cons (by repeat (first | exact Pick.head | apply Pick.tail)) (Ent.fold xv trivial (by ((try simp only [List.cons_append, List.nil_append]); repeat (first | exact Ent.nil | (apply Ent.cons; repeat (first | exact Pick.head | apply Pick.tail)))))))
    by_cases h2 : kk = 2
    · subst h2
      cases on with
      | true =>
        (refine go ?_; intros)
        (show wpO _ _ ⟨_, .call _, _, _, _, _⟩ _ _ _ _ _ _; refine o_callA (dev_dies d name l lives hn) (fun _ _ => ?_); try simp only [List.cons_append, List.nil_append])
        (refine go ?_; intros)
        (show wpO _ _ ⟨_, .call _, _, _, _, _⟩ _ _ _ _ _ _; refine o_callA (ref_dies x name l lives) (fun _ _ => ?_); try simp only [List.cons_append, List.nil_append])
        (refine go ?_; intros)
        refine wpC_unfold .head (fun xv _ => ?_)
        simp only [List.cons_append, List.nil_append]
        refine wpC_drawnA [pts x (.cells [.string name, .bool false, xv, .int .i64 (lives)].toArray 33 (0, 0)), itemsI xv l] 30 ?_
        ((first | refine df 0 ?_ | refine dfs 0 ?_); (first | refine df 1 ?_ | refine dfs 1 ?_); (first | refine df 2 ?_ | refine dfs 2 ?_); (first | refine dt 3 ?_ | refine dts 3 ?_); (first | refine dt 5 ?_ | refine dts 5 ?_); (first | refine dt 6 ?_ | refine dts 6 ?_); (first | refine dt 7 ?_ | refine dts 7 ?_); (first | refine dt 8 ?_ | refine dts 8 ?_); (first | refine dt 9 ?_ | refine dts 9 ?_))
        (refine dcall 4 (dev_online d name false l (lives) hn) (fun _ _ => ?_); try simp only [List.cons_append, List.nil_append])
        ((first | refine df 10 ?_ | refine dfs 10 ?_); (first | refine df 11 ?_ | refine dfs 11 ?_); (first | refine df 12 ?_ | refine dfs 12 ?_); (first | refine dt 13 ?_ | refine dts 13 ?_); (first | refine dt 15 ?_ | refine dts 15 ?_); (first | refine dt 16 ?_ | refine dts 16 ?_); (first | refine dt 17 ?_ | refine dts 17 ?_); (first | refine dt 18 ?_ | refine dts 18 ?_))
        (refine dcall 14 (dev_lives d name false l (lives) hn) (fun _ _ => ?_); try simp only [List.cons_append, List.nil_append])
        ((first | refine df 19 ?_ | refine dfs 19 ?_); (first | refine df 20 ?_ | refine dfs 20 ?_); (first | refine df 21 ?_ | refine dfs 21 ?_); (first | refine dt 22 ?_ | refine dts 22 ?_); (first | refine dt 24 ?_ | refine dts 24 ?_); (first | refine dt 25 ?_ | refine dts 25 ?_); (first | refine dt 26 ?_ | refine dts 26 ?_); (first | refine dt 27 ?_ | refine dts 27 ?_))
        (refine dcall 23 (dev_view d name false l (lives) hn (by assumption)) (fun vv _ => ?_); try simp only [List.cons_append, List.nil_append])
        (refine dcall 28 (same_items (itemsI vv l) (itemsI xv l) vv xv name false l Rd.ofSl Rd.ofSl (by assumption)) (fun _ _ => ?_); try simp only [List.cons_append, List.nil_append])
        ((first | refine df 29 ?_ | refine dfs 29 ?_); refine dl ?_)
        (refine go ?_; intros)
        refine q_round ⟨i + 1, false, l, lives⟩ (by simp only; omega) (by simp only; omega) (by repeat (first | exact trivial | refine ⟨rfl, ?_⟩)) ?_
        exact Ent.cons (by repeat (first | exact Pick.head | apply Pick.tail)) (Ent.cons (by repeat (first | exact Pick.head | apply Pick.tail)) (Ent.fold xv trivial (by ((try simp only [List.cons_append, List.nil_append]); repeat (first | exact Ent.nil | (apply Ent.cons; repeat (first | exact Pick.head | apply Pick.tail)))))))
      | false =>
        (refine go ?_; intros)
        (show wpO _ _ ⟨_, .call _, _, _, _, _⟩ _ _ _ _ _ _; refine o_callA (dev_diesOff d name l lives hn) (fun _ _ => ?_); try simp only [List.cons_append, List.nil_append])
        (refine go ?_; intros)
        (show wpO _ _ ⟨_, .call _, _, _, _, _⟩ _ _ _ _ _ _; refine o_callA (ref_diesOff x name l lives) (fun _ _ => ?_); try simp only [List.cons_append, List.nil_append])
        (refine go ?_; intros)
        refine wpC_unfold .head (fun xv _ => ?_)
        simp only [List.cons_append, List.nil_append]
        refine wpC_drawnA [pts x (.cells [.string name, .bool false, xv, .int .i64 (lives)].toArray 33 (0, 0)), itemsI xv l] 30 ?_
        ((first | refine df 0 ?_ | refine dfs 0 ?_); (first | refine df 1 ?_ | refine dfs 1 ?_); (first | refine df 2 ?_ | refine dfs 2 ?_); (first | refine dt 3 ?_ | refine dts 3 ?_); (first | refine dt 5 ?_ | refine dts 5 ?_); (first | refine dt 6 ?_ | refine dts 6 ?_); (first | refine dt 7 ?_ | refine dts 7 ?_); (first | refine dt 8 ?_ | refine dts 8 ?_); (first | refine dt 9 ?_ | refine dts 9 ?_))
        (refine dcall 4 (dev_online d name false l (lives) hn) (fun _ _ => ?_); try simp only [List.cons_append, List.nil_append])
        ((first | refine df 10 ?_ | refine dfs 10 ?_); (first | refine df 11 ?_ | refine dfs 11 ?_); (first | refine df 12 ?_ | refine dfs 12 ?_); (first | refine dt 13 ?_ | refine dts 13 ?_); (first | refine dt 15 ?_ | refine dts 15 ?_); (first | refine dt 16 ?_ | refine dts 16 ?_); (first | refine dt 17 ?_ | refine dts 17 ?_); (first | refine dt 18 ?_ | refine dts 18 ?_))
        (refine dcall 14 (dev_lives d name false l (lives) hn) (fun _ _ => ?_); try simp only [List.cons_append, List.nil_append])
        ((first | refine df 19 ?_ | refine dfs 19 ?_); (first | refine df 20 ?_ | refine dfs 20 ?_); (first | refine df 21 ?_ | refine dfs 21 ?_); (first | refine dt 22 ?_ | refine dts 22 ?_); (first | refine dt 24 ?_ | refine dts 24 ?_); (first | refine dt 25 ?_ | refine dts 25 ?_); (first | refine dt 26 ?_ | refine dts 26 ?_); (first | refine dt 27 ?_ | refine dts 27 ?_))
        (refine dcall 23 (dev_view d name false l (lives) hn (by assumption)) (fun vv _ => ?_); try simp only [List.cons_append, List.nil_append])
        (refine dcall 28 (same_items (itemsI vv l) (itemsI xv l) vv xv name false l Rd.ofSl Rd.ofSl (by assumption)) (fun _ _ => ?_); try simp only [List.cons_append, List.nil_append])
        ((first | refine df 29 ?_ | refine dfs 29 ?_); refine dl ?_)
        (refine go ?_; intros)
        refine q_round ⟨i + 1, false, l, lives⟩ (by simp only; omega) (by simp only; omega) (by repeat (first | exact trivial | refine ⟨rfl, ?_⟩)) ?_
        exact Ent.cons (by repeat (first | exact Pick.head | apply Pick.tail)) (Ent.cons (by repeat (first | exact Pick.head | apply Pick.tail)) (Ent.fold xv trivial (by ((try simp only [List.cons_append, List.nil_append]); repeat (first | exact Ent.nil | (apply Ent.cons; repeat (first | exact Pick.head | apply Pick.tail)))))))
    (refine go ?_; intros)
    refine wpC_unfold (.tail (.tail (.tail .head))) (fun xv _ => ?_)
    simp only [List.cons_append, List.nil_append]
    refine wpC_drawnA [pts x (.cells [.string name, .bool on, xv, .int .i64 (lives)].toArray 33 (0, 0)), itemsI xv l] 30 ?_
    ((first | refine df 0 ?_ | refine dfs 0 ?_); (first | refine df 1 ?_ | refine dfs 1 ?_); (first | refine df 2 ?_ | refine dfs 2 ?_); (first | refine dt 3 ?_ | refine dts 3 ?_); (first | refine dt 5 ?_ | refine dts 5 ?_); (first | refine dt 6 ?_ | refine dts 6 ?_); (first | refine dt 7 ?_ | refine dts 7 ?_); (first | refine dt 8 ?_ | refine dts 8 ?_); (first | refine dt 9 ?_ | refine dts 9 ?_))
    (refine dcall 4 (dev_online d name on l (lives) hn) (fun _ _ => ?_); try simp only [List.cons_append, List.nil_append])
    ((first | refine df 10 ?_ | refine dfs 10 ?_); (first | refine df 11 ?_ | refine dfs 11 ?_); (first | refine df 12 ?_ | refine dfs 12 ?_); (first | refine dt 13 ?_ | refine dts 13 ?_); (first | refine dt 15 ?_ | refine dts 15 ?_); (first | refine dt 16 ?_ | refine dts 16 ?_); (first | refine dt 17 ?_ | refine dts 17 ?_); (first | refine dt 18 ?_ | refine dts 18 ?_))
    (refine dcall 14 (dev_lives d name on l (lives) hn) (fun _ _ => ?_); try simp only [List.cons_append, List.nil_append])
    ((first | refine df 19 ?_ | refine dfs 19 ?_); (first | refine df 20 ?_ | refine dfs 20 ?_); (first | refine df 21 ?_ | refine dfs 21 ?_); (first | refine dt 22 ?_ | refine dts 22 ?_); (first | refine dt 24 ?_ | refine dts 24 ?_); (first | refine dt 25 ?_ | refine dts 25 ?_); (first | refine dt 26 ?_ | refine dts 26 ?_); (first | refine dt 27 ?_ | refine dts 27 ?_))
    (refine dcall 23 (dev_view d name on l (lives) hn (by assumption)) (fun vv _ => ?_); try simp only [List.cons_append, List.nil_append])
    (refine dcall 28 (same_items (itemsI vv l) (itemsI xv l) vv xv name on l Rd.ofSl Rd.ofSl (by assumption)) (fun _ _ => ?_); try simp only [List.cons_append, List.nil_append])
    ((first | refine df 29 ?_ | refine dfs 29 ?_); refine dl ?_)
    (refine go ?_; intros)
    refine q_round ⟨i + 1, on, l, lives⟩ (by simp only; omega) (by simp only; omega) (by repeat (first | exact trivial | refine ⟨rfl, ?_⟩)) ?_
    exact Ent.cons (by repeat (first | exact Pick.head | apply Pick.tail)) (Ent.cons (by repeat (first | exact Pick.head | apply Pick.tail)) (Ent.fold xv trivial (by ((try simp only [List.cons_append, List.nil_append]); repeat (first | exact Ent.nil | (apply Ent.cons; repeat (first | exact Pick.head | apply Pick.tail)))))))
  · by_cases hi1 : i < acts.length
    all_goals
      (refine go ?_; intros)
      (show wpO _ _ ⟨_, .call _, _, _, _, _⟩ _ _ _ _ _ _; refine o_callA (law_awake) (fun _ _ => ?_); try simp only [List.cons_append, List.nil_append])
      (refine go ?_; intros)
      refine q_ret1 rfl rfl () rfl trivial ?_
      ((try simp only [List.cons_append, List.nil_append]); repeat (first | exact Ent.nil | (apply Ent.cons; repeat (first | exact Pick.head | apply Pick.tail))))
end Go.Proofs.Ytcejjoikioemhaa
