/-
  DeviceLast: its walk.
-/
import Derived.Test.YtcejjoikioemhaaDevP
set_option linter.unusedSimpArgs false
set_option linter.unusedVariables false
namespace Go.Proofs.Ytcejjoikioemhaa
open Go Go.Sx
attribute [local irreducible] wpE wpO wpC qE wpQ wpQO wpH wpHO wpD wpDO Ev own emp exI sl ch PostS LoopQ Rd rowsAt

structure LsSt where
  i : Nat
  on : Bool
  l : List Item
  lives : Nat
  lv : Value
def itemsFit (l : List Item) : Prop := ∀ x ∈ l, x.name.size ≤ 140737488355328
def lastActs (H : PHeap) (acts : List PAct) : Prop := ∀ m ∈ acts, rowsAt H 8 m.v (m.l.map Item.cells) ∧ m.l.length * 72 ≤ 140737488355328 ∧ itemsFit m.l
structure BangSt where
  k : Nat
  ls : List Item

set_option maxHeartbeats 8000000 in
theorem law_last (H : PHeap) (v : Value) (acts : List PAct) (hv : rowsAt H 2 v (acts.map PAct.cells)) (hacts : lastActs H acts) :
    FnDoes Try.prog 4 [v] [own H] (fun _ : Unit => True) (fun _ => .bool true) (fun _ => [own H]) := by
  refine does_of Try.func4 rfl rfl Try.ntmps4 rfl (by simp only [enum, Nat.reduceAdd, Nat.zero_add]; exact rfl) (fun c => ?_)
  obtain ⟨a, cap, rfl⟩ := hv.slice
  have hv' := hv
  simp only [List.length_map] at hv' ⊢
  have hd : (⟨#[100]⟩ : ByteArray) ≠ noText := by decide
  (refine go ?_; intros)
  (show wpO _ _ ⟨_, .call _, _, _, _, _⟩ _ _ _ _ _ _; refine o_callA (dev_new ⟨#[100]⟩ hd) (fun d _ => ?_); try simp only [List.cons_append, List.nil_append])
  (refine go ?_; intro x)
  refine wpC_loop (σ := LsSt) (fun s => s.i ≤ 60 ∧ s.lives ≤ s.i ∧ s.l.length * 72 ≤ 140737488355328)
    (fun s => [(0, .slice a acts.length cap), (3, ptr d), (5, .bool s.on), (6, ptr x), (7, .int .i64 s.i)])
    (fun s => [own H, devI d ⟨#[100]⟩ s.on s.l s.lives, pts x (.cells [.string ⟨#[100]⟩, .bool s.on, s.lv].toArray 31 (0, 0)), itemsI s.lv s.l])
    (fun s => 60 - s.i) ⟨0, false, [], 0, .slice none 0 0⟩ (by simp) (by repeat (first | exact trivial | refine ⟨rfl, ?_⟩)) (Ent.cons (by repeat (first | exact Pick.head | apply Pick.tail)) (Ent.cons (by repeat (first | exact Pick.head | apply Pick.tail)) (Ent.cons (by repeat (first | exact Pick.head | apply Pick.tail)) (Ent.slNil Ent.nil)))) (fun s hs => ?_)
  obtain ⟨i, on, l, lives, lv⟩ := s
  simp only at hs ⊢
  obtain ⟨s1, s2, s3⟩ := hs
  refine wpC_fact (sl_one (v := lv) (by repeat (first | exact Pick.head | apply Pick.tail))) (fun hlv => ?_)
  by_cases hi : i < acts.length ∧ i < 60
  · obtain ⟨i1, i2⟩ := hi
    obtain ⟨b, off, cap', e, hc⟩ := hv'.at i (by simpa using i1)
    simp only [List.length_map, Value.slice.injEq] at e
    obtain ⟨rfl, _, rfl⟩ := e
    obtain ⟨hrow, hbl, hfit⟩ := hacts acts[i] (List.getElem_mem _)
    have hc' : ∀ j u, (acts[i].cells)[j]? = some u → H.cell? ⟨b, off + i * 2 + j, none⟩ = some u := by simpa using hc
    generalize acts[i] = act at hrow hbl hfit hc'
    obtain ⟨kk, aa, ac, al⟩ := act
    simp only at hrow hbl hfit
    have hc0 : H.cell? ⟨b, off + i * 2 + 0, none⟩ = some (.int .i64 kk) := hc' 0 _ rfl
    have hc1 : H.cell? ⟨b, off + i * 2 + 1, none⟩ = some (.slice aa al.length ac) := hc' 1 _ rfl
    clear hc hc'
    (refine go ?_; intro bb)
    (refine go ?_; intros)
    refine wpO_ent (N := [sl 49 8 (.slice (some ⟨bb, 0, none⟩) 0 0) 0 [], own H, devI d ⟨#[100]⟩ on l lives, pts x (.cells [.string ⟨#[100]⟩, .bool on, lv].toArray 31 (0, 0)), itemsI lv l]) (Ent.slClose (junk := []) .head rfl rfl (Nat.le_refl _) (Nat.zero_le _) rfl (by ((try simp only [List.cons_append, List.nil_append]); repeat (first | exact Ent.nil | (apply Ent.cons; repeat (first | exact Pick.head | apply Pick.tail)))))) ?_
    refine o_append (sz := 8) (news := items al) (m := al.length) rfl rfl rfl rfl rfl rfl rfl rfl (by repeat (first | exact Pick.head | apply Pick.tail)) ((Rd.ofRows hrow).src (.tail .head) rfl) ?_ rfl (fun vl => ?_)
    · show (0 + al.length) * 72 ≤ 140737488355328
      omega
    simp only [Nat.zero_add, List.nil_append]
    refine wpE_fact (Rd.ofSl.isSlice (X := itemsI vl al) .head) (fun hvl => ?_)
    obtain ⟨va, vcap, rfl, hvl⟩ := hvl
    have hrd : Rd (itemsI (.slice va al.length vcap) al) 8 (.slice va al.length vcap) al.length (items al) := Rd.ofSl
    by_cases h0 : kk = 0
    · subst h0
      (refine go ?_; intros)
      (show wpO _ _ ⟨_, .call _, _, _, _, _⟩ _ _ _ _ _ _; refine o_callA (dev_born d _ on l lives _ _ al hd (by omega) (by omega) hrd hbl) (fun _ _ => ?_); try simp only [List.cons_append, List.nil_append])
      (refine go ?_; intro b3)
      (refine go ?_; intros)
      refine wpO_ent (N := [sl 49 8 (.slice (some ⟨b3, 0, none⟩) 0 0) 0 [], own H, devI d ⟨#[100]⟩ true al (lives + 1), pts x (.cells [.string ⟨#[100]⟩, .bool on, lv].toArray 31 (0, 0)), itemsI lv l, itemsI (.slice va al.length vcap) al]) (Ent.slClose (junk := []) .head rfl rfl (Nat.le_refl _) (Nat.zero_le _) rfl (by ((try simp only [List.cons_append, List.nil_append]); repeat (first | exact Ent.nil | (apply Ent.cons; repeat (first | exact Pick.head | apply Pick.tail)))))) ?_
      refine o_append (sz := 8) (news := items al) (m := al.length) rfl rfl rfl rfl rfl rfl rfl rfl (by repeat (first | exact Pick.head | apply Pick.tail)) ((Rd.ofRows hrow).src (.tail .head) rfl) ?_ rfl (fun lw => ?_)
      · show (0 + al.length) * 72 ≤ 140737488355328
        omega
      simp only [Nat.zero_add, List.nil_append]
      refine wpE_fact (sl_one (v := lw) .head) (fun hlw => ?_)
      (refine go ?_; intros)
      refine wpC_loop (σ := BangSt) (fun s => s.k ≤ al.length ∧ s.ls.length = al.length ∧ ∀ j (h : j < s.ls.length), s.k ≤ j → s.ls[j].name.size ≤ 140737488355328)
        (fun s => [(0, .slice (some ⟨b, off, none⟩) acts.length cap), (3, ptr d), (5, .bool true), (6, ptr x), (7, .int .i64 i), (8, .slice va al.length vcap), (9, .int .i64 s.k)])
        (fun s => [own H, devI d ⟨#[100]⟩ true al (lives + 1), pts x (.cells [.string ⟨#[100]⟩, .bool true, lw].toArray 31 (0, 0)), itemsI lw al, sl 49 8 (.slice va al.length vcap) al.length (items s.ls)])
        (fun s => al.length - s.k) ⟨0, al⟩ ⟨Nat.zero_le _, rfl, fun j h _ => hfit _ (List.getElem_mem _)⟩ (by repeat (first | exact trivial | refine ⟨rfl, ?_⟩)) (by ((try simp only [List.cons_append, List.nil_append]); repeat (first | exact Ent.nil | (apply Ent.cons; repeat (first | exact Pick.head | apply Pick.tail))))) (fun s hs => ?_)
      obtain ⟨k, ls⟩ := s
      simp only at hs ⊢
      obtain ⟨t1, t2, t3⟩ := hs
      by_cases hk : k < al.length
      · refine wpC_sl (.tail (.tail (.tail (.tail .head)))) (fun _ h _ => by omega) (fun b1 c1 junk e1 f1 g1 h1 => ?_)
        cases e1
        have hkl : k < ls.length := by omega
        have hcell : (items ls ++ junk)[k * 8]? = some (.string ls[k].name) := by
          have := fm_get item_len ls k hkl 0 (.string ls[k].name) rfl
          rw [List.getElem?_append_left (by have := (List.getElem?_eq_some_iff.1 this).1; simpa using this)]
          simpa using this
        have hsz : ls[k].name.size + 1 ≤ 9223372036854775807 := by have := t3 k hkl (Nat.le_refl _); omega
        have hL : (items ls).length = ls.length * 8 := fm_length item_len ls
        obtain ⟨m', hm'⟩ : ∃ m' : Item, m' = ⟨ls[k].name ++ ⟨#[33]⟩, ls[k].hasAlias, ls[k].alias, ls[k].type, ls[k].null, ls[k].vk, ls[k].vn, ls[k].vs⟩ := ⟨_, rfl⟩
        have hset : (items ls ++ junk).set (k * 8) (.string (ls[k].name ++ ⟨#[33]⟩)) = items (ls.set k m') ++ junk := by
          rw [List.set_append_left _ _ (by omega)]
          congr 1
          exact fm_set (m' := m') (j := 0) item_len ls k hkl (by rw [hm']; rfl) (by omega)
        (refine go ?_; intros)
        refine o_evB (ev_load rfl rfl rfl (by repeat (first | exact Pick.head | apply Pick.tail)) hcell) ?_
        (refine go ?_; intros)
        refine o_evB (ev_concat rfl rfl hsz) ?_
        (refine go ?_; intros)
        refine o_store rfl rfl rfl rfl rfl (by repeat (first | exact Pick.head | apply Pick.tail)) (Upd1.of (by have := (List.getElem?_eq_some_iff.1 hcell).1; exact this)) ?_
        rw [hset]
        (refine go ?_; intros)
        refine q_round ⟨k + 1, ls.set k m'⟩ ⟨by simp only; omega, by simp only [List.length_set]; exact t2, ?_⟩ (by simp only; omega) (by repeat (first | exact trivial | refine ⟨rfl, ?_⟩)) ?_
        · intro j hj hkj
          simp only [List.length_set] at hj hkj ⊢
          rw [List.getElem_set_ne (by omega)]
          exact t3 j hj (by omega)
        · refine Ent.cons (by repeat (first | exact Pick.head | apply Pick.tail)) (Ent.cons (by repeat (first | exact Pick.head | apply Pick.tail)) (Ent.cons (by repeat (first | exact Pick.head | apply Pick.tail)) (Ent.cons (by repeat (first | exact Pick.head | apply Pick.tail)) (Ent.slClose (junk := junk) (by repeat (first | exact Pick.head | apply Pick.tail)) ?_ (fm_one item_one _) f1 g1 ?_ Ent.nil))))
          · rw [fm_length item_len, List.length_set, t2]
          · rw [List.length_append, fm_length item_len, List.length_set, ← fm_length item_len ls, ← List.length_append]; exact h1
      · (refine go ?_; intros)
        refine wpC_drawnA [pts x (.cells [.string ⟨#[100]⟩, .bool true, lw].toArray 31 (0, 0)), itemsI lw al] 4 ?_
        ((first | refine dt 0 ?_ | refine dts 0 ?_); (first | refine dt 2 ?_ | refine dts 2 ?_))
        (refine dcall 1 (dev_view d _ true al (lives + 1) hd (by assumption)) (fun vx _ => ?_); try simp only [List.cons_append, List.nil_append])
        (refine dcall 3 (same_items (itemsI vx al) (itemsI lw al) vx lw _ true al Rd.ofSl Rd.ofSl (by assumption)) (fun _ _ => ?_); try simp only [List.cons_append, List.nil_append])
        (refine dl ?_)
        (refine go ?_; intros)
        refine q_round ⟨i + 1, true, al, lives + 1, lw⟩ ⟨by simp only; omega, by simp only; omega, by assumption⟩ (by simp only; omega) (by repeat (first | exact trivial | refine ⟨rfl, ?_⟩)) (by ((try simp only [List.cons_append, List.nil_append]); repeat (first | exact Ent.nil | (apply Ent.cons; repeat (first | exact Pick.head | apply Pick.tail)))))
    by_cases h1 : kk = 1
    · subst h1
      cases on with
      | true =>
        (refine go ?_; intros)
        (show wpO _ _ ⟨_, .call _, _, _, _, _⟩ _ _ _ _ _ _; refine o_callA (dev_told d _ l lives _ _ al hd hrd hbl) (fun _ _ => ?_); try simp only [List.cons_append, List.nil_append])
        (refine go ?_; intro b3)
        (refine go ?_; intros)
        refine wpO_ent (N := [sl 49 8 (.slice (some ⟨b3, 0, none⟩) 0 0) 0 [], own H, devI d ⟨#[100]⟩ true al lives, pts x (.cells [.string ⟨#[100]⟩, .bool true, lv].toArray 31 (0, 0)), itemsI lv l, itemsI (.slice va al.length vcap) al]) (Ent.slClose (junk := []) .head rfl rfl (Nat.le_refl _) (Nat.zero_le _) rfl (by ((try simp only [List.cons_append, List.nil_append]); repeat (first | exact Ent.nil | (apply Ent.cons; repeat (first | exact Pick.head | apply Pick.tail)))))) ?_
        refine o_append (sz := 8) (news := items al) (m := al.length) rfl rfl rfl rfl rfl rfl rfl rfl (by repeat (first | exact Pick.head | apply Pick.tail)) ((Rd.ofRows hrow).src (.tail .head) rfl) ?_ rfl (fun lw => ?_)
        · show (0 + al.length) * 72 ≤ 140737488355328
          omega
        simp only [Nat.zero_add, List.nil_append]
        refine wpE_fact (sl_one (v := lw) .head) (fun hlw => ?_)
        (refine go ?_; intros)
        refine wpC_loop (σ := BangSt) (fun s => s.k ≤ al.length ∧ s.ls.length = al.length ∧ ∀ j (h : j < s.ls.length), s.k ≤ j → s.ls[j].name.size ≤ 140737488355328)
          (fun s => [(0, .slice (some ⟨b, off, none⟩) acts.length cap), (3, ptr d), (5, .bool true), (6, ptr x), (7, .int .i64 i), (8, .slice va al.length vcap), (9, .int .i64 s.k)])
          (fun s => [own H, devI d ⟨#[100]⟩ true al (lives), pts x (.cells [.string ⟨#[100]⟩, .bool true, lw].toArray 31 (0, 0)), itemsI lw al, sl 49 8 (.slice va al.length vcap) al.length (items s.ls)])
          (fun s => al.length - s.k) ⟨0, al⟩ ⟨Nat.zero_le _, rfl, fun j h _ => hfit _ (List.getElem_mem _)⟩ (by repeat (first | exact trivial | refine ⟨rfl, ?_⟩)) (by ((try simp only [List.cons_append, List.nil_append]); repeat (first | exact Ent.nil | (apply Ent.cons; repeat (first | exact Pick.head | apply Pick.tail))))) (fun s hs => ?_)
        obtain ⟨k, ls⟩ := s
        simp only at hs ⊢
        obtain ⟨t1, t2, t3⟩ := hs
        by_cases hk : k < al.length
        · refine wpC_sl (.tail (.tail (.tail (.tail .head)))) (fun _ h _ => by omega) (fun b1 c1 junk e1 f1 g1 h1 => ?_)
          cases e1
          have hkl : k < ls.length := by omega
          have hcell : (items ls ++ junk)[k * 8]? = some (.string ls[k].name) := by
            have := fm_get item_len ls k hkl 0 (.string ls[k].name) rfl
            rw [List.getElem?_append_left (by have := (List.getElem?_eq_some_iff.1 this).1; simpa using this)]
            simpa using this
          have hsz : ls[k].name.size + 1 ≤ 9223372036854775807 := by have := t3 k hkl (Nat.le_refl _); omega
          have hL : (items ls).length = ls.length * 8 := fm_length item_len ls
          obtain ⟨m', hm'⟩ : ∃ m' : Item, m' = ⟨ls[k].name ++ ⟨#[33]⟩, ls[k].hasAlias, ls[k].alias, ls[k].type, ls[k].null, ls[k].vk, ls[k].vn, ls[k].vs⟩ := ⟨_, rfl⟩
          have hset : (items ls ++ junk).set (k * 8) (.string (ls[k].name ++ ⟨#[33]⟩)) = items (ls.set k m') ++ junk := by
            rw [List.set_append_left _ _ (by omega)]
            congr 1
            exact fm_set (m' := m') (j := 0) item_len ls k hkl (by rw [hm']; rfl) (by omega)
          (refine go ?_; intros)
          refine o_evB (ev_load rfl rfl rfl (by repeat (first | exact Pick.head | apply Pick.tail)) hcell) ?_
          (refine go ?_; intros)
          refine o_evB (ev_concat rfl rfl hsz) ?_
          (refine go ?_; intros)
          refine o_store rfl rfl rfl rfl rfl (by repeat (first | exact Pick.head | apply Pick.tail)) (Upd1.of (by have := (List.getElem?_eq_some_iff.1 hcell).1; exact this)) ?_
          rw [hset]
          (refine go ?_; intros)
          refine q_round ⟨k + 1, ls.set k m'⟩ ⟨by simp only; omega, by simp only [List.length_set]; exact t2, ?_⟩ (by simp only; omega) (by repeat (first | exact trivial | refine ⟨rfl, ?_⟩)) ?_
          · intro j hj hkj
            simp only [List.length_set] at hj hkj ⊢
            rw [List.getElem_set_ne (by omega)]
            exact t3 j hj (by omega)
          · refine Ent.cons (by repeat (first | exact Pick.head | apply Pick.tail)) (Ent.cons (by repeat (first | exact Pick.head | apply Pick.tail)) (Ent.cons (by repeat (first | exact Pick.head | apply Pick.tail)) (Ent.cons (by repeat (first | exact Pick.head | apply Pick.tail)) (Ent.slClose (junk := junk) (by repeat (first | exact Pick.head | apply Pick.tail)) ?_ (fm_one item_one _) f1 g1 ?_ Ent.nil))))
            · rw [fm_length item_len, List.length_set, t2]
            · rw [List.length_append, fm_length item_len, List.length_set, ← fm_length item_len ls, ← List.length_append]; exact h1
        · (refine go ?_; intros)
          refine wpC_drawnA [pts x (.cells [.string ⟨#[100]⟩, .bool true, lw].toArray 31 (0, 0)), itemsI lw al] 4 ?_
          ((first | refine dt 0 ?_ | refine dts 0 ?_); (first | refine dt 2 ?_ | refine dts 2 ?_))
          (refine dcall 1 (dev_view d _ true al (lives) hd (by assumption)) (fun vx _ => ?_); try simp only [List.cons_append, List.nil_append])
          (refine dcall 3 (same_items (itemsI vx al) (itemsI lw al) vx lw _ true al Rd.ofSl Rd.ofSl (by assumption)) (fun _ _ => ?_); try simp only [List.cons_append, List.nil_append])
          (refine dl ?_)
          (refine go ?_; intros)
          refine q_round ⟨i + 1, true, al, lives, lw⟩ ⟨by simp only; omega, by simp only; omega, by assumption⟩ (by simp only; omega) (by repeat (first | exact trivial | refine ⟨rfl, ?_⟩)) (by ((try simp only [List.cons_append, List.nil_append]); repeat (first | exact Ent.nil | (apply Ent.cons; repeat (first | exact Pick.head | apply Pick.tail)))))
      | false =>
        (refine go ?_; intros)
        (show wpO _ _ ⟨_, .call _, _, _, _, _⟩ _ _ _ _ _ _; refine o_callA (dev_toldOff d _ l lives va al.length vcap hd) (fun _ _ => ?_); try simp only [List.cons_append, List.nil_append])
        (refine go ?_; intros)
        refine wpC_loop (σ := BangSt) (fun s => s.k ≤ al.length ∧ s.ls.length = al.length ∧ ∀ j (h : j < s.ls.length), s.k ≤ j → s.ls[j].name.size ≤ 140737488355328)
          (fun s => [(0, .slice (some ⟨b, off, none⟩) acts.length cap), (3, ptr d), (5, .bool false), (6, ptr x), (7, .int .i64 i), (8, .slice va al.length vcap), (9, .int .i64 s.k)])
          (fun s => [own H, devI d ⟨#[100]⟩ false l (lives), pts x (.cells [.string ⟨#[100]⟩, .bool false, lv].toArray 31 (0, 0)), itemsI lv l, sl 49 8 (.slice va al.length vcap) al.length (items s.ls)])
          (fun s => al.length - s.k) ⟨0, al⟩ ⟨Nat.zero_le _, rfl, fun j h _ => hfit _ (List.getElem_mem _)⟩ (by repeat (first | exact trivial | refine ⟨rfl, ?_⟩)) (by ((try simp only [List.cons_append, List.nil_append]); repeat (first | exact Ent.nil | (apply Ent.cons; repeat (first | exact Pick.head | apply Pick.tail))))) (fun s hs => ?_)
        obtain ⟨k, ls⟩ := s
        simp only at hs ⊢
        obtain ⟨t1, t2, t3⟩ := hs
        by_cases hk : k < al.length
        · refine wpC_sl (.tail (.tail (.tail (.tail .head)))) (fun _ h _ => by omega) (fun b1 c1 junk e1 f1 g1 h1 => ?_)
          cases e1
          have hkl : k < ls.length := by omega
          have hcell : (items ls ++ junk)[k * 8]? = some (.string ls[k].name) := by
            have := fm_get item_len ls k hkl 0 (.string ls[k].name) rfl
            rw [List.getElem?_append_left (by have := (List.getElem?_eq_some_iff.1 this).1; simpa using this)]
            simpa using this
          have hsz : ls[k].name.size + 1 ≤ 9223372036854775807 := by have := t3 k hkl (Nat.le_refl _); omega
          have hL : (items ls).length = ls.length * 8 := fm_length item_len ls
          obtain ⟨m', hm'⟩ : ∃ m' : Item, m' = ⟨ls[k].name ++ ⟨#[33]⟩, ls[k].hasAlias, ls[k].alias, ls[k].type, ls[k].null, ls[k].vk, ls[k].vn, ls[k].vs⟩ := ⟨_, rfl⟩
          have hset : (items ls ++ junk).set (k * 8) (.string (ls[k].name ++ ⟨#[33]⟩)) = items (ls.set k m') ++ junk := by
            rw [List.set_append_left _ _ (by omega)]
            congr 1
            exact fm_set (m' := m') (j := 0) item_len ls k hkl (by rw [hm']; rfl) (by omega)
          (refine go ?_; intros)
          refine o_evB (ev_load rfl rfl rfl (by repeat (first | exact Pick.head | apply Pick.tail)) hcell) ?_
          (refine go ?_; intros)
          refine o_evB (ev_concat rfl rfl hsz) ?_
          (refine go ?_; intros)
          refine o_store rfl rfl rfl rfl rfl (by repeat (first | exact Pick.head | apply Pick.tail)) (Upd1.of (by have := (List.getElem?_eq_some_iff.1 hcell).1; exact this)) ?_
          rw [hset]
          (refine go ?_; intros)
          refine q_round ⟨k + 1, ls.set k m'⟩ ⟨by simp only; omega, by simp only [List.length_set]; exact t2, ?_⟩ (by simp only; omega) (by repeat (first | exact trivial | refine ⟨rfl, ?_⟩)) ?_
          · intro j hj hkj
            simp only [List.length_set] at hj hkj ⊢
            rw [List.getElem_set_ne (by omega)]
            exact t3 j hj (by omega)
          · refine Ent.cons (by repeat (first | exact Pick.head | apply Pick.tail)) (Ent.cons (by repeat (first | exact Pick.head | apply Pick.tail)) (Ent.cons (by repeat (first | exact Pick.head | apply Pick.tail)) (Ent.cons (by repeat (first | exact Pick.head | apply Pick.tail)) (Ent.slClose (junk := junk) (by repeat (first | exact Pick.head | apply Pick.tail)) ?_ (fm_one item_one _) f1 g1 ?_ Ent.nil))))
            · rw [fm_length item_len, List.length_set, t2]
            · rw [List.length_append, fm_length item_len, List.length_set, ← fm_length item_len ls, ← List.length_append]; exact h1
        · (refine go ?_; intros)
          refine wpC_drawnA [pts x (.cells [.string ⟨#[100]⟩, .bool false, lv].toArray 31 (0, 0)), itemsI lv l] 4 ?_
          ((first | refine dt 0 ?_ | refine dts 0 ?_); (first | refine dt 2 ?_ | refine dts 2 ?_))
          (refine dcall 1 (dev_view d _ false l (lives) hd (by assumption)) (fun vx _ => ?_); try simp only [List.cons_append, List.nil_append])
          (refine dcall 3 (same_items (itemsI vx l) (itemsI lv l) vx lv _ false l Rd.ofSl Rd.ofSl (by assumption)) (fun _ _ => ?_); try simp only [List.cons_append, List.nil_append])
          (refine dl ?_)
          (refine go ?_; intros)
          refine q_round ⟨i + 1, false, l, lives, lv⟩ ⟨by simp only; omega, by simp only; omega, by assumption⟩ (by simp only; omega) (by repeat (first | exact trivial | refine ⟨rfl, ?_⟩)) (by ((try simp only [List.cons_append, List.nil_append]); repeat (first | exact Ent.nil | (apply Ent.cons; repeat (first | exact Pick.head | apply Pick.tail)))))
    by_cases h2 : kk = 2
    · subst h2
      cases on with
      | true =>
        (refine go ?_; intros)
        (show wpO _ _ ⟨_, .call _, _, _, _, _⟩ _ _ _ _ _ _; refine o_callA (dev_dies d _ l lives hd) (fun _ _ => ?_); try simp only [List.cons_append, List.nil_append])
        (refine go ?_; intros)
        refine wpC_loop (σ := BangSt) (fun s => s.k ≤ al.length ∧ s.ls.length = al.length ∧ ∀ j (h : j < s.ls.length), s.k ≤ j → s.ls[j].name.size ≤ 140737488355328)
          (fun s => [(0, .slice (some ⟨b, off, none⟩) acts.length cap), (3, ptr d), (5, .bool false), (6, ptr x), (7, .int .i64 i), (8, .slice va al.length vcap), (9, .int .i64 s.k)])
          (fun s => [own H, devI d ⟨#[100]⟩ false l (lives), pts x (.cells [.string ⟨#[100]⟩, .bool false, lv].toArray 31 (0, 0)), itemsI lv l, sl 49 8 (.slice va al.length vcap) al.length (items s.ls)])
          (fun s => al.length - s.k) ⟨0, al⟩ ⟨Nat.zero_le _, rfl, fun j h _ => hfit _ (List.getElem_mem _)⟩ (by repeat (first | exact trivial | refine ⟨rfl, ?_⟩)) (by ((try simp only [List.cons_append, List.nil_append]); repeat (first | exact Ent.nil | (apply Ent.cons; repeat (first | exact Pick.head | apply Pick.tail))))) (fun s hs => ?_)
        obtain ⟨k, ls⟩ := s
        simp only at hs ⊢
        obtain ⟨t1, t2, t3⟩ := hs
        by_cases hk : k < al.length
        · refine wpC_sl (.tail (.tail (.tail (.tail .head)))) (fun _ h _ => by omega) (fun b1 c1 junk e1 f1 g1 h1 => ?_)
          cases e1
          have hkl : k < ls.length := by omega
          have hcell : (items ls ++ junk)[k * 8]? = some (.string ls[k].name) := by
            have := fm_get item_len ls k hkl 0 (.string ls[k].name) rfl
            rw [List.getElem?_append_left (by have := (List.getElem?_eq_some_iff.1 this).1; simpa using this)]
            simpa using this
          have hsz : ls[k].name.size + 1 ≤ 9223372036854775807 := by have := t3 k hkl (Nat.le_refl _); omega
          have hL : (items ls).length = ls.length * 8 := fm_length item_len ls
          obtain ⟨m', hm'⟩ : ∃ m' : Item, m' = ⟨ls[k].name ++ ⟨#[33]⟩, ls[k].hasAlias, ls[k].alias, ls[k].type, ls[k].null, ls[k].vk, ls[k].vn, ls[k].vs⟩ := ⟨_, rfl⟩
          have hset : (items ls ++ junk).set (k * 8) (.string (ls[k].name ++ ⟨#[33]⟩)) = items (ls.set k m') ++ junk := by
            rw [List.set_append_left _ _ (by omega)]
            congr 1
            exact fm_set (m' := m') (j := 0) item_len ls k hkl (by rw [hm']; rfl) (by omega)
          (refine go ?_; intros)
          refine o_evB (ev_load rfl rfl rfl (by repeat (first | exact Pick.head | apply Pick.tail)) hcell) ?_
          (refine go ?_; intros)
          refine o_evB (ev_concat rfl rfl hsz) ?_
          (refine go ?_; intros)
          refine o_store rfl rfl rfl rfl rfl (by repeat (first | exact Pick.head | apply Pick.tail)) (Upd1.of (by have := (List.getElem?_eq_some_iff.1 hcell).1; exact this)) ?_
          rw [hset]
          (refine go ?_; intros)
          refine q_round ⟨k + 1, ls.set k m'⟩ ⟨by simp only; omega, by simp only [List.length_set]; exact t2, ?_⟩ (by simp only; omega) (by repeat (first | exact trivial | refine ⟨rfl, ?_⟩)) ?_
          · intro j hj hkj
            simp only [List.length_set] at hj hkj ⊢
            rw [List.getElem_set_ne (by omega)]
            exact t3 j hj (by omega)
          · refine Ent.cons (by repeat (first | exact Pick.head | apply Pick.tail)) (Ent.cons (by repeat (first | exact Pick.head | apply Pick.tail)) (Ent.cons (by repeat (first | exact Pick.head | apply Pick.tail)) (Ent.cons (by repeat (first | exact Pick.head | apply Pick.tail)) (Ent.slClose (junk := junk) (by repeat (first | exact Pick.head | apply Pick.tail)) ?_ (fm_one item_one _) f1 g1 ?_ Ent.nil))))
            · rw [fm_length item_len, List.length_set, t2]
            · rw [List.length_append, fm_length item_len, List.length_set, ← fm_length item_len ls, ← List.length_append]; exact h1
        · (refine go ?_; intros)
          refine wpC_drawnA [pts x (.cells [.string ⟨#[100]⟩, .bool false, lv].toArray 31 (0, 0)), itemsI lv l] 4 ?_
          ((first | refine dt 0 ?_ | refine dts 0 ?_); (first | refine dt 2 ?_ | refine dts 2 ?_))
          (refine dcall 1 (dev_view d _ false l (lives) hd (by assumption)) (fun vx _ => ?_); try simp only [List.cons_append, List.nil_append])
          (refine dcall 3 (same_items (itemsI vx l) (itemsI lv l) vx lv _ false l Rd.ofSl Rd.ofSl (by assumption)) (fun _ _ => ?_); try simp only [List.cons_append, List.nil_append])
          (refine dl ?_)
          (refine go ?_; intros)
          refine q_round ⟨i + 1, false, l, lives, lv⟩ ⟨by simp only; omega, by simp only; omega, by assumption⟩ (by simp only; omega) (by repeat (first | exact trivial | refine ⟨rfl, ?_⟩)) (by ((try simp only [List.cons_append, List.nil_append]); repeat (first | exact Ent.nil | (apply Ent.cons; repeat (first | exact Pick.head | apply Pick.tail)))))
      | false =>
        (refine go ?_; intros)
        (show wpO _ _ ⟨_, .call _, _, _, _, _⟩ _ _ _ _ _ _; refine o_callA (dev_diesOff d _ l lives hd) (fun _ _ => ?_); try simp only [List.cons_append, List.nil_append])
        (refine go ?_; intros)
        refine wpC_loop (σ := BangSt) (fun s => s.k ≤ al.length ∧ s.ls.length = al.length ∧ ∀ j (h : j < s.ls.length), s.k ≤ j → s.ls[j].name.size ≤ 140737488355328)
          (fun s => [(0, .slice (some ⟨b, off, none⟩) acts.length cap), (3, ptr d), (5, .bool false), (6, ptr x), (7, .int .i64 i), (8, .slice va al.length vcap), (9, .int .i64 s.k)])
          (fun s => [own H, devI d ⟨#[100]⟩ false l (lives), pts x (.cells [.string ⟨#[100]⟩, .bool false, lv].toArray 31 (0, 0)), itemsI lv l, sl 49 8 (.slice va al.length vcap) al.length (items s.ls)])
          (fun s => al.length - s.k) ⟨0, al⟩ ⟨Nat.zero_le _, rfl, fun j h _ => hfit _ (List.getElem_mem _)⟩ (by repeat (first | exact trivial | refine ⟨rfl, ?_⟩)) (by ((try simp only [List.cons_append, List.nil_append]); repeat (first | exact Ent.nil | (apply Ent.cons; repeat (first | exact Pick.head | apply Pick.tail))))) (fun s hs => ?_)
        obtain ⟨k, ls⟩ := s
        simp only at hs ⊢
        obtain ⟨t1, t2, t3⟩ := hs
        by_cases hk : k < al.length
        · refine wpC_sl (.tail (.tail (.tail (.tail .head)))) (fun _ h _ => by omega) (fun b1 c1 junk e1 f1 g1 h1 => ?_)
          cases e1
          have hkl : k < ls.length := by omega
          have hcell : (items ls ++ junk)[k * 8]? = some (.string ls[k].name) := by
            have := fm_get item_len ls k hkl 0 (.string ls[k].name) rfl
            rw [List.getElem?_append_left (by have := (List.getElem?_eq_some_iff.1 this).1; simpa using this)]
            simpa using this
          have hsz : ls[k].name.size + 1 ≤ 9223372036854775807 := by have := t3 k hkl (Nat.le_refl _); omega
          have hL : (items ls).length = ls.length * 8 := fm_length item_len ls
          obtain ⟨m', hm'⟩ : ∃ m' : Item, m' = ⟨ls[k].name ++ ⟨#[33]⟩, ls[k].hasAlias, ls[k].alias, ls[k].type, ls[k].null, ls[k].vk, ls[k].vn, ls[k].vs⟩ := ⟨_, rfl⟩
          have hset : (items ls ++ junk).set (k * 8) (.string (ls[k].name ++ ⟨#[33]⟩)) = items (ls.set k m') ++ junk := by
            rw [List.set_append_left _ _ (by omega)]
            congr 1
            exact fm_set (m' := m') (j := 0) item_len ls k hkl (by rw [hm']; rfl) (by omega)
          (refine go ?_; intros)
          refine o_evB (ev_load rfl rfl rfl (by repeat (first | exact Pick.head | apply Pick.tail)) hcell) ?_
          (refine go ?_; intros)
          refine o_evB (ev_concat rfl rfl hsz) ?_
          (refine go ?_; intros)
          refine o_store rfl rfl rfl rfl rfl (by repeat (first | exact Pick.head | apply Pick.tail)) (Upd1.of (by have := (List.getElem?_eq_some_iff.1 hcell).1; exact this)) ?_
          rw [hset]
          (refine go ?_; intros)
          refine q_round ⟨k + 1, ls.set k m'⟩ ⟨by simp only; omega, by simp only [List.length_set]; exact t2, ?_⟩ (by simp only; omega) (by repeat (first | exact trivial | refine ⟨rfl, ?_⟩)) ?_
          · intro j hj hkj
            simp only [List.length_set] at hj hkj ⊢
            rw [List.getElem_set_ne (by omega)]
            exact t3 j hj (by omega)
          · refine Ent.cons (by repeat (first | exact Pick.head | apply Pick.tail)) (Ent.cons (by repeat (first | exact Pick.head | apply Pick.tail)) (Ent.cons (by repeat (first | exact Pick.head | apply Pick.tail)) (Ent.cons (by repeat (first | exact Pick.head | apply Pick.tail)) (Ent.slClose (junk := junk) (by repeat (first | exact Pick.head | apply Pick.tail)) ?_ (fm_one item_one _) f1 g1 ?_ Ent.nil))))
            · rw [fm_length item_len, List.length_set, t2]
            · rw [List.length_append, fm_length item_len, List.length_set, ← fm_length item_len ls, ← List.length_append]; exact h1
        · (refine go ?_; intros)
          refine wpC_drawnA [pts x (.cells [.string ⟨#[100]⟩, .bool false, lv].toArray 31 (0, 0)), itemsI lv l] 4 ?_
          ((first | refine dt 0 ?_ | refine dts 0 ?_); (first | refine dt 2 ?_ | refine dts 2 ?_))
          (refine dcall 1 (dev_view d _ false l (lives) hd (by assumption)) (fun vx _ => ?_); try simp only [List.cons_append, List.nil_append])
          (refine dcall 3 (same_items (itemsI vx l) (itemsI lv l) vx lv _ false l Rd.ofSl Rd.ofSl (by assumption)) (fun _ _ => ?_); try simp only [List.cons_append, List.nil_append])
          (refine dl ?_)
          (refine go ?_; intros)
          refine q_round ⟨i + 1, false, l, lives, lv⟩ ⟨by simp only; omega, by simp only; omega, by assumption⟩ (by simp only; omega) (by repeat (first | exact trivial | refine ⟨rfl, ?_⟩)) (by ((try simp only [List.cons_append, List.nil_append]); repeat (first | exact Ent.nil | (apply Ent.cons; repeat (first | exact Pick.head | apply Pick.tail)))))
    (refine go ?_; intros)
    refine wpC_loop (σ := BangSt) (fun s => s.k ≤ al.length ∧ s.ls.length = al.length ∧ ∀ j (h : j < s.ls.length), s.k ≤ j → s.ls[j].name.size ≤ 140737488355328)
      (fun s => [(0, .slice (some ⟨b, off, none⟩) acts.length cap), (3, ptr d), (5, .bool on), (6, ptr x), (7, .int .i64 i), (8, .slice va al.length vcap), (9, .int .i64 s.k)])
      (fun s => [own H, devI d ⟨#[100]⟩ on l (lives), pts x (.cells [.string ⟨#[100]⟩, .bool on, lv].toArray 31 (0, 0)), itemsI lv l, sl 49 8 (.slice va al.length vcap) al.length (items s.ls)])
      (fun s => al.length - s.k) ⟨0, al⟩ ⟨Nat.zero_le _, rfl, fun j h _ => hfit _ (List.getElem_mem _)⟩ (by repeat (first | exact trivial | refine ⟨rfl, ?_⟩)) (by ((try simp only [List.cons_append, List.nil_append]); repeat (first | exact Ent.nil | (apply Ent.cons; repeat (first | exact Pick.head | apply Pick.tail))))) (fun s hs => ?_)
    obtain ⟨k, ls⟩ := s
    simp only at hs ⊢
    obtain ⟨t1, t2, t3⟩ := hs
    by_cases hk : k < al.length
    · refine wpC_sl (.tail (.tail (.tail (.tail .head)))) (fun _ h _ => by omega) (fun b1 c1 junk e1 f1 g1 h1 => ?_)
      cases e1
      have hkl : k < ls.length := by omega
      have hcell : (items ls ++ junk)[k * 8]? = some (.string ls[k].name) := by
        have := fm_get item_len ls k hkl 0 (.string ls[k].name) rfl
        rw [List.getElem?_append_left (by have := (List.getElem?_eq_some_iff.1 this).1; simpa using this)]
        simpa using this
      have hsz : ls[k].name.size + 1 ≤ 9223372036854775807 := by have := t3 k hkl (Nat.le_refl _); omega
      have hL : (items ls).length = ls.length * 8 := fm_length item_len ls
      obtain ⟨m', hm'⟩ : ∃ m' : Item, m' = ⟨ls[k].name ++ ⟨#[33]⟩, ls[k].hasAlias, ls[k].alias, ls[k].type, ls[k].null, ls[k].vk, ls[k].vn, ls[k].vs⟩ := ⟨_, rfl⟩
      have hset : (items ls ++ junk).set (k * 8) (.string (ls[k].name ++ ⟨#[33]⟩)) = items (ls.set k m') ++ junk := by
        rw [List.set_append_left _ _ (by omega)]
        congr 1
        exact fm_set (m' := m') (j := 0) item_len ls k hkl (by rw [hm']; rfl) (by omega)
      (refine go ?_; intros)
      refine o_evB (ev_load rfl rfl rfl (by repeat (first | exact Pick.head | apply Pick.tail)) hcell) ?_
      (refine go ?_; intros)
      refine o_evB (ev_concat rfl rfl hsz) ?_
      (refine go ?_; intros)
      refine o_store rfl rfl rfl rfl rfl (by repeat (first | exact Pick.head | apply Pick.tail)) (Upd1.of (by have := (List.getElem?_eq_some_iff.1 hcell).1; exact this)) ?_
      rw [hset]
      (refine go ?_; intros)
      refine q_round ⟨k + 1, ls.set k m'⟩ ⟨by simp only; omega, by simp only [List.length_set]; exact t2, ?_⟩ (by simp only; omega) (by repeat (first | exact trivial | refine ⟨rfl, ?_⟩)) ?_
      · intro j hj hkj
        simp only [List.length_set] at hj hkj ⊢
        rw [List.getElem_set_ne (by omega)]
        exact t3 j hj (by omega)
      · refine Ent.cons (by repeat (first | exact Pick.head | apply Pick.tail)) (Ent.cons (by repeat (first | exact Pick.head | apply Pick.tail)) (Ent.cons (by repeat (first | exact Pick.head | apply Pick.tail)) (Ent.cons (by repeat (first | exact Pick.head | apply Pick.tail)) (Ent.slClose (junk := junk) (by repeat (first | exact Pick.head | apply Pick.tail)) ?_ (fm_one item_one _) f1 g1 ?_ Ent.nil))))
        · rw [fm_length item_len, List.length_set, t2]
        · rw [List.length_append, fm_length item_len, List.length_set, ← fm_length item_len ls, ← List.length_append]; exact h1
    · (refine go ?_; intros)
      refine wpC_drawnA [pts x (.cells [.string ⟨#[100]⟩, .bool on, lv].toArray 31 (0, 0)), itemsI lv l] 4 ?_
      ((first | refine dt 0 ?_ | refine dts 0 ?_); (first | refine dt 2 ?_ | refine dts 2 ?_))
      (refine dcall 1 (dev_view d _ on l (lives) hd (by assumption)) (fun vx _ => ?_); try simp only [List.cons_append, List.nil_append])
      (refine dcall 3 (same_items (itemsI vx l) (itemsI lv l) vx lv _ on l Rd.ofSl Rd.ofSl (by assumption)) (fun _ _ => ?_); try simp only [List.cons_append, List.nil_append])
      (refine dl ?_)
      (refine go ?_; intros)
      refine q_round ⟨i + 1, on, l, lives, lv⟩ ⟨by simp only; omega, by simp only; omega, by assumption⟩ (by simp only; omega) (by repeat (first | exact trivial | refine ⟨rfl, ?_⟩)) (by ((try simp only [List.cons_append, List.nil_append]); repeat (first | exact Ent.nil | (apply Ent.cons; repeat (first | exact Pick.head | apply Pick.tail)))))
  · by_cases hi1 : i < acts.length
    all_goals
      (refine go ?_; intros)
      (show wpO _ _ ⟨_, .call _, _, _, _, _⟩ _ _ _ _ _ _; refine o_callA (law_awake) (fun _ _ => ?_); try simp only [List.cons_append, List.nil_append])
      (refine go ?_; intros)
      refine q_ret1 rfl rfl () rfl trivial ?_
      ((try simp only [List.cons_append, List.nil_append]); repeat (first | exact Ent.nil | (apply Ent.cons; repeat (first | exact Pick.head | apply Pick.tail))))
end Go.Proofs.Ytcejjoikioemhaa
