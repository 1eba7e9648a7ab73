/-
  Numbers that came back: a heap behind heap.Interface.
  The package ids: its keeper behind heap.Interface, and its functions.
  The package ids: Has, least, Take, Give.
  The package ids: Take and Give.
  The package ids: Give and Has.
  The package ids: New and All.
  The package ids told by the row of what is taken.
  The plain law of the numbers that are free, continued: what the laws ask.
-/
import Derived.Test.YtmlcikcdegodaaaDoorHpW
import Derived.Test.YtmlcikcdegodaaaDoorPlM
import Derived.Test.YtmlcikcdegodaaaDoorSxM
set_option linter.unusedSimpArgs false
set_option linter.unusedVariables false
set_option maxRecDepth 20000
namespace Go.Proofs.YtmlcikcdegodaaaDoor
open Go Go.Sx
def ptr (q : Nat) : Value := .pointer (some ⟨q, 0, none⟩)
abbrev intsI (v : Value) (l : List Int) : HProp := sl 3 1 v l.length (ints l)
abbrev backC (p : Nat) (v : Value) : HProp := pts p (.cells [v].toArray 145 (0, 0))
def backI (p : Nat) (l : List Int) : HProp := exI (σ := Value) (fun _ => True) fun v => [backC p v, intsI v l]
theorem intsI_snoc (w : Value) (l : List Int) (k : Int) : sl 3 1 w (l.length + 1) (ints l ++ [.int .i64 k]) = intsI w (l ++ [k]) := by simp [intsI, ints_snoc]
theorem ints_set (l : List Int) (k : Nat) (x : Int) : (ints l).set k (.int .i64 x) = ints (l.set k x) := by simp [ints, List.map_set]
attribute [local irreducible] MidQ wpE wpO wpC qE wpQ wpQO wpH wpHO wpD wpDO wpZ Ev own emp exI sl ch PostS LoopQ Rd rowsAt

theorem back_len (p : Nat) (v : Value) (l : List Int) : FnDoes Tryd.prog 90 [v] [backC p v, intsI v l] (fun _ : Unit => True) (fun _ => .int .i64 l.length) (fun _ => [backI p l]) := by
  refine does_of Tryd.func90 rfl rfl Tryd.ntmps90 rfl (by simp only [enum, Nat.reduceAdd, Nat.zero_add]; exact rfl) (fun c => ?_)
  (refine go ?_; intros)
  refine q_ret1 rfl rfl () rfl trivial ?_
  exact Ent.fold v trivial (by ((try simp only [List.cons_append, List.nil_append]); repeat (first | exact Ent.nil | (apply Ent.cons; repeat (first | exact Pick.head | apply Pick.tail)))))
theorem back_less (p : Nat) (v : Value) (l : List Int) (i j : Nat) (hi : i < l.length) (hj : j < l.length) : FnDoes Tryd.prog 91 [v, .int .i64 i, .int .i64 j] [backC p v, intsI v l] (fun _ : Unit => True) (fun _ => .bool (ltI (nth l i) (nth l j))) (fun _ => [backI p l]) := by
  refine does_of Tryd.func91 rfl rfl Tryd.ntmps91 rfl (by simp only [enum, Nat.reduceAdd, Nat.zero_add]; exact rfl) (fun c => ?_)
  have hr : Rd (intsI v l) 1 v l.length (ints l) := Rd.ofSl
  refine wpC_fact (hr.isSlice (by repeat (first | exact Pick.head | apply Pick.tail))) (fun hk => ?_)
  obtain ⟨a, cap, rfl, hk⟩ := hk
  obtain ⟨b, off, rfl, hc⟩ := hk (by omega)
  have hci : (ints l)[i * 1]? = some (.int .i64 l[i]) := by rw [Nat.mul_one]; exact ints_get hi
  have hcj : (ints l)[j * 1]? = some (.int .i64 l[j]) := by rw [Nat.mul_one]; exact ints_get hj
  rw [nth_eq hi, nth_eq hj]
  by_cases hlt : l[i] < l[j]
  all_goals
    (refine go ?_; intros)
    refine wpC_quietA ?_
    refine go ?_
    refine oq_evB (ev_load_rd rfl rfl rfl hr (by repeat (first | exact Pick.head | apply Pick.tail)) rfl hci) ?_
    refine go ?_
    refine oq_evB (ev_load_rd rfl rfl rfl hr (by repeat (first | exact Pick.head | apply Pick.tail)) rfl hcj) ?_
    refine go ?_
    (refine go ?_; intros)
    refine q_ret1 rfl rfl () (by simp [ltI, hlt]) trivial ?_
    exact Ent.fold _ trivial (by ((try simp only [List.cons_append, List.nil_append]); repeat (first | exact Ent.nil | (apply Ent.cons; repeat (first | exact Pick.head | apply Pick.tail)))))
theorem back_swap (p : Nat) (v : Value) (l : List Int) (i j : Nat) (hi : i < l.length) (hj : j < l.length) : FnDoes Tryd.prog 93 [v, .int .i64 i, .int .i64 j] [backC p v, intsI v l] (fun _ : Unit => True) (fun _ => .tuple #[]) (fun _ => [backI p (swp l i j)]) := by
  refine does_of Tryd.func93 rfl rfl Tryd.ntmps93 rfl (by simp only [enum, Nat.reduceAdd, Nat.zero_add]; exact rfl) (fun c => ?_)
  refine wpC_sl (.tail .head) (fun _ h _ => by omega) (fun b cap junk e h1 h2 h3 => ?_)
  subst e
  have hL : (ints l ++ junk).length = l.length + junk.length := by simp [ints]
  have hci : (ints l ++ junk)[0 + i * 1]? = some (.int .i64 l[i]) := by
    rw [List.getElem?_append_left (by rw [ints_len]; omega), show 0 + i * 1 = i by omega]; exact ints_get hi
  have hcj : (ints l ++ junk)[0 + j * 1]? = some (.int .i64 l[j]) := by
    rw [List.getElem?_append_left (by rw [ints_len]; omega), show 0 + j * 1 = j by omega]; exact ints_get hj
  (refine go ?_; intros)
  refine wpC_drawnT ?_
  (refine zt 0 ?_; refine zt 1 ?_; refine zt 2 ?_; refine zt 3 ?_; refine zt 4 ?_; refine zt 5 ?_; refine zt 8 ?_; refine zt 9 ?_)
  refine wpZ_D [pts b (.cells (ints l ++ junk).toArray 3 (0, 0))] 13 3 5 ?_
  ((first | refine dt 6 ?_ | refine dts 6 ?_); (first | refine dt 7 ?_ | refine dts 7 ?_); (first | refine dt 10 ?_ | refine dts 10 ?_); (first | refine dt 11 ?_ | refine dts 11 ?_); (first | refine df 12 ?_ | refine dfs 12 ?_))
  refine dz ?_
  (refine wpZ_unit 13 rfl rfl (by decide +kernel) rfl ?_; show OUL _ ⟨_, .store _ _ _, _, _, _, _⟩ _ _ _ _ _)
  refine x_store (by rfl) (by rfl) (by rfl) (by rfl) rfl (by repeat (first | exact Pick.head | apply Pick.tail)) (Upd1.of (by omega)) ?_
  (refine zf 14 ?_)
  (refine wpZ_unit 15 rfl rfl (by decide +kernel) rfl ?_; show OUL _ ⟨_, .store _ _ _, _, _, _, _⟩ _ _ _ _ _)
  refine x_store (by rfl) (by rfl) (by rfl) (by rfl) rfl .head (Upd1.of (by simp only [List.length_set]; omega)) ?_
  refine zend ?_
  (refine go ?_; intros)
  refine q_ret0 rfl () rfl trivial ?_ _ (Or.inr rfl)
  have e1 : ((ints l ++ junk).set (0 + i * 1) (.int .i64 l[j])).set (0 + j * 1) (.int .i64 l[i]) = ints (swp l i j) ++ junk := by
    rw [show 0 + i * 1 = i by omega, show 0 + j * 1 = j by omega, List.set_append_left _ _ (by rw [ints_len]; exact hi), ints_set, List.set_append_left _ _ (by rw [ints_len, List.length_set]; exact hj), ints_set]
    simp [swp, nth_eq hi, nth_eq hj]
  rw [e1]
  have hs : (swp l i j).length = l.length := swp_length _ _ _
  refine Ent.fold (.slice (some ⟨b, 0, none⟩) l.length cap) trivial (Ent.cons (by repeat (first | exact Pick.head | apply Pick.tail)) ?_)
  rw [intsI, hs]
  exact Ent.slClose .head (by rw [ints_len, hs]; omega) (ints_one _) h1 h2 (by rw [List.length_append, ints_len, hs]; rw [hL] at h3; exact h3) Ent.nil
theorem back_pop (p : Nat) (l : List Int) (h0 : 0 < l.length) (hl : l.length ≤ 1000000) : FnDoes Tryd.prog 92 [ptr p] [backI p l] (fun _ : Unit => True) (fun _ => .iface 3 (.int .i64 (nth l (l.length - 1)))) (fun _ => [backI p (l.take (l.length - 1))]) := by
  refine does_of Tryd.func92 rfl rfl Tryd.ntmps92 rfl (by simp only [enum, Nat.reduceAdd, Nat.zero_add]; exact rfl) (fun c => ?_)
  refine wpC_unfold .head (fun v _ => ?_)
  simp only [List.cons_append, List.nil_append]
  refine wpC_sl (.tail .head) (fun _ h _ => by omega) (fun b cap junk e h1 h2 h3 => ?_)
  subst e
  obtain ⟨k, hk⟩ : ∃ k, l.length = k + 1 := ⟨l.length - 1, by omega⟩
  have hkl : k < l.length := by omega
  rw [show l.length - 1 = k by omega, nth_eq hkl]
  have hcell : (ints l ++ junk)[0 + k * 1]? = some (.int .i64 l[k]) := by
    rw [List.getElem?_append_left (by rw [ints_len]; omega), show 0 + k * 1 = k by omega]; exact ints_get hkl
  have e1 : ((l.length : Int) - 1) = (k : Int) := by omega
  (refine go ?_; intros)
  rw [e1]
  (refine go ?_; intros)
  refine o_evB (ev_slcHi (h := k) rfl rfl rfl rfl rfl (by omega)) ?_
  (refine go ?_; intros)
  refine q_ret1 rfl rfl () rfl trivial ?_
  have e2 : ints l ++ junk = ints (l.take k) ++ (.int .i64 l[k] :: junk) := by
    have := List.take_append_drop k l
    rw [List.drop_eq_getElem_cons hkl, List.drop_eq_nil_of_le (by omega)] at this
    conv => lhs; rw [← this]
    simp only [ints, List.map_append, List.map_cons, List.map_nil, List.append_assoc, List.cons_append, List.nil_append]
  have e3 : (l.take k).length = k := by rw [List.length_take]; omega
  rw [e2]
  refine Ent.fold (.slice (some ⟨b, 0, none⟩) k cap) trivial (Ent.cons (by repeat (first | exact Pick.head | apply Pick.tail)) ?_)
  rw [intsI, e3]
  exact Ent.slClose .head (by rw [ints_len, e3]; omega) (ints_one _) (by omega) h2 (by rw [← e2]; exact h3) Ent.nil
end Go.Proofs.YtmlcikcdegodaaaDoor
set_option linter.unusedSimpArgs false
set_option linter.unusedVariables false
set_option maxRecDepth 20000
namespace Go.Proofs.YtmlcikcdegodaaaDoor
open Go Go.Sx
theorem sep_cell {p : Nat} {T : TypeId} {f : Nat × Nat} {v : Value} {R : List HProp} (h : PHeap) (s : sepL (pts p (.cells [v].toArray T f) :: R) h) : h.cell? ⟨p, 0, none⟩ = some v := by
  obtain ⟨h1, h2, a, _, _, l, _⟩ := s
  have e : h p = some (.cells [v].toArray T f) := l p _ (by rw [show h1 = single p (.cells [v].toArray T f) from a]; simp [single])
  simp [PHeap.cell?, e]
theorem backOps (p : Nat) : HeapOps 144 (ptr p) ltI (backI p) where
  len l := InvDoes.unfold (fun v _ => InvDoes.loaded (e := 145) (d := .slice 3) (back_len p v l) (by decide +kernel) rfl rfl (fun h s => sep_cell h s))
  less l i j hi hj := InvDoes.unfold (fun v _ => InvDoes.loaded (e := 145) (d := .slice 3) (back_less p v l i j hi hj) (by decide +kernel) rfl rfl (fun h s => sep_cell h s))
  swap l i j hi hj := InvDoes.unfold (fun v _ => InvDoes.loaded (e := 145) (d := .slice 3) (back_swap p v l i j hi hj) (by decide +kernel) rfl rfl (fun h s => sep_cell h s))
theorem back_popInv (p : Nat) (l : List Int) (n : Nat) (hn : l.length = n + 1) (hl : l.length ≤ 1000000) : InvDoes Tryd.prog 144 (ptr p) "Pop" [] [backI p l] (fun _ : Unit => True) (fun _ => .iface 3 (.int .i64 (nth l n))) (fun _ => [backI p (l.take n)]) := by
  have h := back_pop p l (by omega) hl
  rw [show l.length - 1 = n by omega] at h
  exact InvDoes.direct h (by decide +kernel)
attribute [local irreducible] MidQ wpE wpO wpC qE wpQ wpQO wpH wpHO wpD wpDO wpZ Ev own emp exI sl ch PostS LoopQ Rd rowsAt
abbrev idsC (d : Nat) (most next : Int) (p q : Nat) : HProp := pts d (.cells [.int .i64 most, .int .i64 next, ptr p, .map (some q)].toArray 148 (0, 0))
theorem ids_none (d : Nat) (most next : Int) (p q : Nat) : FnDoes Tryd.prog 60 [ptr d] [idsC d most next p q] (fun _ : Unit => True) (fun _ => .bool false) (fun _ => [idsC d most next p q]) := by
  refine does_of Tryd.func60 rfl rfl Tryd.ntmps60 rfl (by simp only [enum, Nat.reduceAdd, Nat.zero_add]; exact rfl) (fun c => ?_)
  (refine go ?_; intros)
  refine q_ret1 rfl rfl () rfl trivial ?_
  exact Ent.refl _
theorem ids_len (d : Nat) (most next : Int) (p q : Nat) (es : List (Int × Int)) : FnDoes Tryd.prog 88 [ptr d] [idsC d most next p q, mapI q es] (fun _ : Unit => True) (fun _ => .int .i64 es.length) (fun _ => [idsC d most next p q, mapI q es]) := by
  refine does_of Tryd.func88 rfl rfl Tryd.ntmps88 rfl (by simp only [enum, Nat.reduceAdd, Nat.zero_add]; exact rfl) (fun c => ?_)
  (refine go ?_; intros)
  (show wpO _ _ ⟨_, .call _, _, _, _, _⟩ _ _ _ _ _ _; refine o_callA (ids_none d most next p q) (fun _ _ => ?_); try simp only [List.cons_append, List.nil_append])
  (refine go ?_; intros)
  refine o_evB (ev_len_map rfl rfl (by repeat (first | exact Pick.head | apply Pick.tail))) ?_
  (refine go ?_; intros)
  refine q_ret1 rfl rfl () rfl trivial ?_
  ((try simp only [List.cons_append, List.nil_append]); repeat (first | exact Ent.nil | (apply Ent.cons; repeat (first | exact Pick.head | apply Pick.tail))))
end Go.Proofs.YtmlcikcdegodaaaDoor
set_option linter.unusedSimpArgs false
set_option linter.unusedVariables false
set_option maxRecDepth 20000
namespace Go.Proofs.YtmlcikcdegodaaaDoor
open Go Go.Sx
attribute [local irreducible] MidQ wpE wpO wpC qE wpQ wpQO wpH wpHO wpD wpDO wpZ Ev own emp exI sl ch PostS LoopQ Rd rowsAt
abbrev popL (l : List Int) : List Int := hpopL ltI l
abbrev popV (l : List Int) : Int := hpopV ltI l
theorem least_back (d : Nat) (most next : Int) (p q : Nat) (l : List Int) (h0 : 0 < l.length) (hl : l.length ≤ 1000000) : FnDoes Tryd.prog 61 [ptr d] [idsC d most next p q, backI p l] (fun _ : Unit => True) (fun _ => .tuple #[.int .i64 (popV l), .bool true]) (fun _ => [idsC d most next p q, backI p (popL l)]) := by
  refine does_of Tryd.func61 rfl rfl Tryd.ntmps61 rfl (by simp only [enum, Nat.reduceAdd, Nat.zero_add]; exact rfl) (fun c => ?_)
  obtain ⟨k, hk⟩ : ∃ k, l.length = k + 1 := ⟨l.length - 1, by omega⟩
  have hgt : (0 : Int) < (l.length : Int) := by omega
  have hl2 : (downL ltI (swp l 0 k) k 0).1.length = k + 1 := by rw [downL_length _ _ (by rw [swp_length]; omega), swp_length, hk]
  have hp := back_popInv p (downL ltI (swp l 0 k) k 0).1 k hl2 (by omega)
  unfold popL popV hpopL hpopV
  rw [show l.length - 1 = k by omega]
  (refine go ?_; intros)
  (show wpO _ _ ⟨_, .call _, _, _, _, _⟩ _ _ _ _ _ _; refine o_invokeI ((backOps p).len l) (fun _ _ => ?_); try simp only [List.cons_append, List.nil_append])
  (refine go ?_; intros)
  (show wpO _ _ ⟨_, .call _, _, _, _, _⟩ _ _ _ _ _ _; refine o_callA (heap_pop (backOps p) l k hk hl _ hp) (fun _ _ => ?_); try simp only [List.cons_append, List.nil_append])
  (refine go ?_; intros)
  refine q_ret2 rfl rfl rfl () rfl trivial ?_
  ((try simp only [List.cons_append, List.nil_append]); repeat (first | exact Ent.nil | (apply Ent.cons; repeat (first | exact Pick.head | apply Pick.tail))))
theorem least_new (d : Nat) (most next : Int) (p q : Nat) (h1 : next ≤ most) (hn : 1 ≤ next) (hm : most ≤ 65535) : FnDoes Tryd.prog 61 [ptr d] [idsC d most next p q, backI p []] (fun _ : Unit => True) (fun _ => .tuple #[.int .i64 next, .bool true]) (fun _ => [idsC d most (next + 1) p q, backI p []]) := by
  refine does_of Tryd.func61 rfl rfl Tryd.ntmps61 rfl (by simp only [enum, Nat.reduceAdd, Nat.zero_add]; exact rfl) (fun c => ?_)
  have hgt : ¬ (most < next) := by omega
  have e1 : next + 1 - 1 = next := by omega
  (refine go ?_; intros)
  (show wpO _ _ ⟨_, .call _, _, _, _, _⟩ _ _ _ _ _ _; refine o_invokeI ((backOps p).len []) (fun _ _ => ?_); try simp only [List.cons_append, List.nil_append])
  (refine go ?_; intros)
  refine wpC_drawnA [idsC d most next p q] 8 ?_
  ((first | refine dt 0 ?_ | refine dts 0 ?_); (first | refine dt 1 ?_ | refine dts 1 ?_); (first | refine dt 2 ?_ | refine dts 2 ?_); (first | refine dt 3 ?_ | refine dts 3 ?_); (first | refine df 4 ?_ | refine dfs 4 ?_); (first | refine df 5 ?_ | refine dfs 5 ?_); (first | refine df 6 ?_ | refine dfs 6 ?_); (first | refine df 7 ?_ | refine dfs 7 ?_); refine dl ?_)
  (refine go ?_; intros)
  rw [e1]
  (refine go ?_; intros)
  refine q_ret2 rfl rfl rfl () rfl trivial ?_
  ((try simp only [List.cons_append, List.nil_append]); repeat (first | exact Ent.nil | (apply Ent.cons; repeat (first | exact Pick.head | apply Pick.tail))))
theorem least_full (d : Nat) (most next : Int) (p q : Nat) (h1 : most < next) : FnDoes Tryd.prog 61 [ptr d] [idsC d most next p q, backI p []] (fun _ : Unit => True) (fun _ => .tuple #[.int .i64 0, .bool false]) (fun _ => [idsC d most next p q, backI p []]) := by
  refine does_of Tryd.func61 rfl rfl Tryd.ntmps61 rfl (by simp only [enum, Nat.reduceAdd, Nat.zero_add]; exact rfl) (fun c => ?_)
  (refine go ?_; intros)
  (show wpO _ _ ⟨_, .call _, _, _, _, _⟩ _ _ _ _ _ _; refine o_invokeI ((backOps p).len []) (fun _ _ => ?_); try simp only [List.cons_append, List.nil_append])
  (refine go ?_; intros)
  refine wpC_drawnA [idsC d most next p q] 8 ?_
  ((first | refine dt 0 ?_ | refine dts 0 ?_); (first | refine dt 1 ?_ | refine dts 1 ?_); (first | refine dt 2 ?_ | refine dts 2 ?_); (first | refine dt 3 ?_ | refine dts 3 ?_); (first | refine df 4 ?_ | refine dfs 4 ?_); (first | refine df 5 ?_ | refine dfs 5 ?_); (first | refine df 6 ?_ | refine dfs 6 ?_); (first | refine df 7 ?_ | refine dfs 7 ?_); refine dl ?_)
  (refine go ?_; intros)
  refine q_ret2 rfl rfl rfl () rfl trivial ?_
  ((try simp only [List.cons_append, List.nil_append]); repeat (first | exact Ent.nil | (apply Ent.cons; repeat (first | exact Pick.head | apply Pick.tail))))
end Go.Proofs.YtmlcikcdegodaaaDoor
set_option linter.unusedSimpArgs false
set_option linter.unusedVariables false
set_option maxRecDepth 20000
namespace Go.Proofs.YtmlcikcdegodaaaDoor
open Go Go.Sx
attribute [local irreducible] MidQ wpE wpO wpC qE wpQ wpQO wpH wpHO wpD wpDO wpZ Ev own emp exI sl ch PostS LoopQ Rd rowsAt
theorem take_of {d : Nat} {most next next' : Int} {p q : Nat} {l l' : List Int} {es : List (Int × Int)} {r : Int}
    (S : FnDoes Tryd.prog 61 [ptr d] [idsC d most next p q, backI p l] (fun _ : Unit => True) (fun _ => .tuple #[.int .i64 r, .bool true]) (fun _ => [idsC d most next' p q, backI p l'])) :
    FnDoes Tryd.prog 56 [ptr d] [idsC d most next p q, backI p l, mapI q es] (fun _ : Unit => True) (fun _ => .tuple #[.int .i64 r, .int .i64 0]) (fun _ => [idsC d most next' p q, backI p l', mapI q (mput es r r)]) := by
  refine does_of Tryd.func56 rfl rfl Tryd.ntmps56 rfl (by simp only [enum, Nat.reduceAdd, Nat.zero_add]; exact rfl) (fun c => ?_)
  (refine go ?_; intros)
  (show wpO _ _ ⟨_, .call _, _, _, _, _⟩ _ _ _ _ _ _; refine o_callA (ids_none d most next p q) (fun _ _ => ?_); try simp only [List.cons_append, List.nil_append])
  (refine go ?_; intros)
  (show wpO _ _ ⟨_, .call _, _, _, _, _⟩ _ _ _ _ _ _; refine o_callA (S) (fun _ _ => ?_); try simp only [List.cons_append, List.nil_append])
  (refine go ?_; intros)
  refine o_mapUpdate rfl rfl rfl rfl rfl (by repeat (first | exact Pick.head | apply Pick.tail)) ?_
  (refine go ?_; intros)
  refine q_ret2 rfl rfl rfl () rfl trivial ?_
  ((try simp only [List.cons_append, List.nil_append]); repeat (first | exact Ent.nil | (apply Ent.cons; repeat (first | exact Pick.head | apply Pick.tail))))
theorem take_full (d : Nat) (most next : Int) (p q : Nat) (es : List (Int × Int)) (h1 : most < next) :
    FnDoes Tryd.prog 56 [ptr d] [idsC d most next p q, backI p [], mapI q es] (fun _ : Unit => True) (fun _ => .tuple #[.int .i64 0, .int .i64 6]) (fun _ => [idsC d most next p q, backI p [], mapI q es]) := by
  refine does_of Tryd.func56 rfl rfl Tryd.ntmps56 rfl (by simp only [enum, Nat.reduceAdd, Nat.zero_add]; exact rfl) (fun c => ?_)
  (refine go ?_; intros)
  (show wpO _ _ ⟨_, .call _, _, _, _, _⟩ _ _ _ _ _ _; refine o_callA (ids_none d most next p q) (fun _ _ => ?_); try simp only [List.cons_append, List.nil_append])
  (refine go ?_; intros)
  (show wpO _ _ ⟨_, .call _, _, _, _, _⟩ _ _ _ _ _ _; refine o_callA (least_full d most next p q h1) (fun _ _ => ?_); try simp only [List.cons_append, List.nil_append])
  (refine go ?_; intros)
  refine q_ret2 rfl rfl rfl () rfl trivial ?_
  ((try simp only [List.cons_append, List.nil_append]); repeat (first | exact Ent.nil | (apply Ent.cons; repeat (first | exact Pick.head | apply Pick.tail))))
end Go.Proofs.YtmlcikcdegodaaaDoor
set_option linter.unusedSimpArgs false
set_option linter.unusedVariables false
set_option maxRecDepth 20000
namespace Go.Proofs.YtmlcikcdegodaaaDoor
open Go Go.Sx
attribute [local irreducible] MidQ wpE wpO wpC qE wpQ wpQO wpH wpHO wpD wpDO wpZ Ev own emp exI sl ch PostS LoopQ Rd rowsAt
end Go.Proofs.YtmlcikcdegodaaaDoor
set_option linter.unusedSimpArgs false
set_option linter.unusedVariables false
set_option maxRecDepth 20000
namespace Go.Proofs.YtmlcikcdegodaaaDoor
open Go Go.Sx
attribute [local irreducible] MidQ wpE wpO wpC qE wpQ wpQO wpH wpHO wpD wpDO wpZ Ev own emp exI sl ch PostS LoopQ Rd rowsAt
theorem ids_newBad (most : Int) (h : most < 1 ∨ 65535 < most) : FnDoes Tryd.prog 54 [.int .i64 most] [] (fun _ : Unit => True) (fun _ => .tuple #[.pointer none, .int .i64 1]) (fun _ => []) := by
  refine does_of Tryd.func54 rfl rfl Tryd.ntmps54 rfl (by simp only [enum, Nat.reduceAdd, Nat.zero_add]; exact rfl) (fun c => ?_)
  by_cases h1 : most < 1
  · (refine go ?_; intros)
    exact q_ret2 rfl rfl rfl () rfl trivial Ent.nil
  · have h2 : 65535 < most := by omega
    (refine go ?_; intros)
    exact q_ret2 rfl rfl rfl () rfl trivial Ent.nil
theorem ids_new (most : Int) (h1 : 1 ≤ most) (h2 : most ≤ 65535) : FnDoes Tryd.prog 54 [.int .i64 most] [] (fun _ : Nat × Nat × Nat => True) (fun y => .tuple #[ptr y.1, .int .i64 0]) (fun y => [idsC y.1 most 1 y.2.1 y.2.2, backI y.2.1 [], mapI y.2.2 []]) := by
  refine does_of Tryd.func54 rfl rfl Tryd.ntmps54 rfl (by simp only [enum, Nat.reduceAdd, Nat.zero_add]; exact rfl) (fun c => ?_)
  have h3 : ¬ most < 1 := by omega
  have h4 : ¬ 65535 < most := by omega
  (refine go ?_; intro s p)
  refine o_makeMap rfl (fun q => ?_)
  (refine go ?_; intro d)
  (refine go ?_; intros)
  refine q_ret2 rfl rfl rfl (d, p, q) rfl trivial ?_
  refine Ent.cons (by repeat (first | exact Pick.head | apply Pick.tail)) (Ent.fold (.slice (some ⟨s, 0, none⟩) 0 0) trivial (Ent.cons (by repeat (first | exact Pick.head | apply Pick.tail)) ?_))
  refine Ent.slClose (xs := []) (junk := []) (b := s) (len := 0) (cap := 0) (by repeat (first | exact Pick.head | apply Pick.tail)) rfl rfl (Nat.le_refl _) (by decide) rfl ?_
  ((try simp only [List.cons_append, List.nil_append]); repeat (first | exact Ent.nil | (apply Ent.cons; repeat (first | exact Pick.head | apply Pick.tail))))
end Go.Proofs.YtmlcikcdegodaaaDoor
set_option linter.unusedSimpArgs false
set_option linter.unusedVariables false
set_option maxRecDepth 20000
namespace Go.Proofs.YtmlcikcdegodaaaDoor
open Go Go.Sx
structure IdsSt where
  next : Nat
  p : Nat
  q : Nat
  back : List Int
  es : List (Int × Int)
def idsI (d n : Nat) (T : List Bool) : HProp := exI (σ := IdsSt) (fun s => IdsInv n T s.next s.back s.es) fun s => [idsC d n s.next s.p s.q, backI s.p s.back, mapI s.q s.es]
attribute [local irreducible] MidQ wpE wpO wpC qE wpQ wpQO wpH wpHO wpD wpDO wpZ Ev own emp exI sl ch PostS LoopQ Rd rowsAt
theorem idsI_mk {d n : Nat} {T : List Bool} {next p q : Nat} {back : List Int} {es : List (Int × Int)} {M R : List HProp} (I : IdsInv n T next back es) (e : Ent M ([idsC d n next p q, backI p back, mapI q es] ++ R)) : Ent M (idsI d n T :: R) :=
  Ent.fold (⟨next, p, q, back, es⟩ : IdsSt) I e
theorem ids_newS (n : Nat) (h1 : 1 ≤ n) (h2 : n ≤ 65535) : FnDoes Tryd.prog 54 [.int .i64 n] [] (fun _ : Nat => True) (fun d => .tuple #[ptr d, .int .i64 0]) (fun d => [idsI d n (List.replicate (n + 1) false)]) :=
  (ids_new n (by omega) (by omega)).turn (Ent.refl _) fun y _ => ⟨y.1, trivial, rfl, idsI_mk (next := 1) (IdsInv.new h1 h2) (Ent.refl _)⟩
theorem ids_takeS (d n : Nat) (T : List Bool) : FnDoes Tryd.prog 56 [ptr d] [idsI d n T] (fun y : Option Nat => IsFree T y) (fun y => .tuple #[.int .i64 ((y.getD 0 : Nat) : Int), .int .i64 (if y.isSome then 0 else 6)]) (fun y => [idsI d n (tookT T y)]) :=
  FnDoes.unfold (callable Tryd.func56 rfl rfl) fun s I => by
    obtain ⟨next, p, q, back, es⟩ := s
    simp only at I ⊢
    have hsum := I.sum
    have hnx := I.nx
    have hn2 := I.n2
    rcases Nat.eq_zero_or_pos back.length with h0 | h0
    · obtain rfl : back = [] := List.eq_nil_of_length_eq_zero h0
      by_cases hl : next ≤ n
      · obtain ⟨f, I'⟩ := I.step hl
        exact (take_of (es := es) (least_new d n next p q (by omega) (by omega) (by omega))).turn (Ent.refl _) fun _ _ => ⟨some next, f, rfl, idsI_mk (next := next + 1) I' (Ent.refl _)⟩
      · exact (take_full d n next p q es (by omega)).turn (Ent.refl _) fun _ _ => ⟨none, I.full (by omega), rfl, idsI_mk I (Ent.refl _)⟩
    · obtain ⟨k, hv, f, I'⟩ := I.pop h0
      have S := least_back d n next p q back h0 (by omega)
      rw [show popV back = (k : Int) from hv] at S
      exact (take_of (es := es) S).turn (Ent.refl _) fun _ _ => ⟨some k, f, rfl, idsI_mk I' (Ent.refl _)⟩
def giveV (T : List Bool) (id : Int) : Int := if id < 1 ∨ (T.length : Int) ≤ id then 1 else if T.getD id.toNat false then 0 else 7
def gaveT (T : List Bool) (id : Int) : List Bool := if id < 1 ∨ (T.length : Int) ≤ id then T else if T.getD id.toNat false then T.set id.toNat false else T
theorem give_bad {T : List Bool} {id : Int} (h : id < 1 ∨ (T.length : Int) ≤ id) : giveV T id = 1 ∧ gaveT T id = T := by unfold giveV gaveT; rw [if_pos h, if_pos h]; exact ⟨rfl, rfl⟩
theorem give_no {T : List Bool} {k : Nat} (h1 : 1 ≤ k) (h2 : k < T.length) (h : T.getD k false = false) : giveV T k = 7 ∧ gaveT T k = T := by
  have hc : ¬ ((k : Int) < 1 ∨ (T.length : Int) ≤ k) := by omega
  unfold giveV gaveT; rw [if_neg hc, if_neg hc, Int.toNat_natCast, h]; exact ⟨rfl, rfl⟩
theorem give_yes {T : List Bool} {k : Nat} (h1 : 1 ≤ k) (h2 : k < T.length) (h : T.getD k false = true) : giveV T k = 0 ∧ gaveT T k = T.set k false := by
  have hc : ¬ ((k : Int) < 1 ∨ (T.length : Int) ≤ k) := by omega
  unfold giveV gaveT; rw [if_neg hc, if_neg hc, Int.toNat_natCast, h]; exact ⟨rfl, rfl⟩
theorem gaveT_len (T : List Bool) (id : Int) : (gaveT T id).length = T.length := by unfold gaveT; split <;> (try split) <;> simp
theorem tookT_len (T : List Bool) (y : Option Nat) : (tookT T y).length = T.length := by cases y <;> simp [tookT]
theorem ids_lenS (d n : Nat) (T : List Bool) : FnDoes Tryd.prog 88 [ptr d] [idsI d n T] (fun _ : Unit => True) (fun _ => .int .i64 (takenTo T n).length) (fun _ => [idsI d n T]) :=
  FnDoes.unfold (callable Tryd.func88 rfl rfl) fun s I => by
    obtain ⟨next, p, q, back, es⟩ := s
    simp only at I ⊢
    rw [← I.ln]
    exact (ids_len d n next p q es).frame1 (Picks.ent (by repeat (first | exact Picks.nil | (apply Picks.cons; repeat (first | exact Pick.head | apply Pick.tail))))) fun _ _ => idsI_mk I (by ((try simp only [List.cons_append, List.nil_append]); repeat (first | exact Ent.nil | (apply Ent.cons; repeat (first | exact Pick.head | apply Pick.tail)))))
end Go.Proofs.YtmlcikcdegodaaaDoor
set_option linter.unusedSimpArgs false
set_option linter.unusedVariables false
namespace Go.Sx
theorem takenTo_full {T : List Bool} : ∀ m, (∀ k, 1 ≤ k → k ≤ m → T.getD k false = true) → (takenTo T m).length = m
  | 0, _ => rfl
  | m + 1, h => by
    rw [takenTo, List.length_append, takenTo_full m (fun k h1 h2 => h k h1 (by omega)), h (m + 1) (by omega) (Nat.le_refl _)]; simp
theorem takenTo_asc (T : List Bool) : ∀ m, (takenTo T m).Pairwise (· < ·)
  | 0 => List.Pairwise.nil
  | m + 1 => by
    rw [takenTo, List.pairwise_append]
    refine ⟨takenTo_asc T m, by split <;> simp, fun a ha b hb => ?_⟩
    obtain ⟨k, rfl, _, h2, _⟩ := (takenTo_mem m).1 ha
    split at hb
    · simp at hb; subst hb; omega
    · cases hb
theorem takenTo_nodup (T : List Bool) (m : Nat) : (takenTo T m).Nodup := (takenTo_asc T m).imp fun h e => by omega
theorem countP_takenTo {T : List Bool} {k : Nat} (h1 : 1 ≤ k) (hf : T.getD k false = false) (ht : ∀ j, 1 ≤ j → j < k → T.getD j false = true) : ∀ m, (takenTo T m).countP (fun x => decide (x < (k : Int))) = min m (k - 1)
  | 0 => by simp [takenTo]
  | m + 1 => by
    rw [takenTo, List.countP_append, countP_takenTo h1 hf ht m]
    by_cases c : m + 1 < k
    · rw [ht (m + 1) (by omega) c, if_pos rfl, List.countP_singleton, if_pos (by simp; omega)]; omega
    · split
      · rw [List.countP_singleton, if_neg (by simp; omega)]; omega
      · simp; omega
theorem countP_take_succ {l : List Int} {p : Int → Bool} {j : Nat} (h : j < l.length) : (l.take (j + 1)).countP p = (l.take j).countP p + if p l[j] then 1 else 0 := by
  rw [List.take_add_one, List.getElem?_eq_getElem h, List.countP_append]
  simp [List.countP_cons]
theorem countP_le_len (l : List Int) (p : Int → Bool) (j : Nat) : (l.take j).countP p ≤ l.length := by
  have h1 := List.countP_le_length (l := l.take j) (p := p)
  have h2 := List.length_take_le' j l
  omega
/-- The first i are taken, of n. -/
def FirstT (n i : Nat) (T : List Bool) : Prop := T.length = n + 1 ∧ (∀ j, 1 ≤ j → j ≤ i → T.getD j false = true) ∧ ∀ j, 1 ≤ j → i < j → T.getD j false = false
theorem FirstT.free {n i : Nat} {T : List Bool} (h : FirstT n i T) (hi : i < n) : IsFree T (some (i + 1)) := ⟨by omega, by rw [h.1]; omega, h.2.2 _ (by omega) (by omega), fun j h1 h2 => h.2.1 j h1 (by omega)⟩
theorem FirstT.next {n i : Nat} {T : List Bool} (h : FirstT n i T) (hi : i < n) : FirstT n (i + 1) (tookT T (some (i + 1))) := by
  have hl : i + 1 < T.length := by rw [h.1]; omega
  refine ⟨by simpa [tookT] using h.1, fun j h1 h2 => ?_, fun j h1 h2 => ?_⟩
  · rw [tookT, getD_set hl]; split
    · rfl
    · exact h.2.1 j h1 (by omega)
  · rw [tookT, getD_set hl, if_neg (by omega)]; exact h.2.2 j h1 (by omega)
theorem FirstT.full {n : Nat} {T : List Bool} (h : FirstT n n T) : IsFree T none := fun k h1 h2 => h.2.1 k h1 (by rw [h.1] at h2; omega)
/-- Just those of a list are taken. -/
def JustT (n : Nat) (l : List Int) (T : List Bool) : Prop := T.length = n + 1 ∧ ∀ j : Nat, 1 ≤ j → j ≤ n → (T.getD j false = true ↔ (j : Int) ∈ l)
theorem JustT.ofTaken {n : Nat} {T : List Bool} (h : T.length = n + 1) : JustT n (takenTo T n) T := ⟨h, fun j h1 h2 => by
  rw [takenTo_mem]
  constructor
  · exact fun e => ⟨j, rfl, h1, h2, e⟩
  · rintro ⟨k, e, _, _, hk⟩
    obtain rfl : j = k := by omega
    exact hk⟩
theorem JustT.out {n : Nat} {T : List Bool} {l : List Int} {k : Nat} {r : Nat} (h : JustT n (l.take (r + 1)) T) (hd : l.Nodup) (hr : r < l.length) (hk : l[r] = (k : Int)) (h1 : 1 ≤ k) (h2 : k ≤ n) : T.getD k false = true ∧ JustT n (l.take r) (T.set k false) := by
  have hl : k < T.length := by rw [h.1]; omega
  have e1 : l.take (r + 1) = l.take r ++ [(k : Int)] := by rw [List.take_add_one, List.getElem?_eq_getElem hr, hk]; rfl
  rw [e1] at h
  have nd : (l.take r ++ [(k : Int)]).Nodup := by rw [← e1]; exact hd.sublist (List.take_sublist _ _)
  rw [List.nodup_append] at nd
  refine ⟨(h.2 k h1 h2).2 (by simp), by simpa using h.1, fun j j1 j2 => ?_⟩
  rw [getD_set hl]
  by_cases c : j = k
  · subst c
    rw [if_pos rfl]
    constructor
    · intro e; cases e
    · intro e; exact absurd rfl (nd.2.2 _ e _ (by simp))
  · rw [if_neg c, h.2 j j1 j2, List.mem_append]
    constructor
    · rintro (e | e)
      · exact e
      · simp at e; omega
    · exact .inl
theorem JustT.first {n : Nat} {T : List Bool} (h : JustT n [] T) (h0 : ∀ j, n < j → T.getD j false = false) : FirstT n 0 T := ⟨h.1, fun j h1 h2 => by omega, fun j h1 h2 => by
  by_cases c : j ≤ n
  · cases e : T.getD j false with
    | false => rfl
    | true => have := (h.2 j h1 c).1 e; cases this
  · exact h0 j (by omega)⟩
theorem out_false {T : List Bool} {n j : Nat} (h : T.length = n + 1) (hj : n < j) : T.getD j false = false := by
  simp only [List.getD]; rw [List.getElem?_eq_none (by omega)]; rfl
theorem firstT_rep (n : Nat) : FirstT n 0 (List.replicate (n + 1) false) := ⟨by simp, fun j h1 h2 => by omega, fun j _ _ => getD_rep _ _⟩
end Go.Sx
