/-
  A new table of aliases.
  A table of aliases is filled; a node's numbers.
  Rows of numbers; a new node.
  errors.As at the two targets that the program hands it: the entries that it reaches.
  errors.As at a refusal; a refusal's number.
-/
import Derived.Test.YtnaabpfpldelmaaGreatDoorM21
import Derived.Test.YtnaabpfpldelmaaGreatDoorM12
import Derived.Laws.Externs
set_option linter.unusedSimpArgs false
set_option linter.unusedVariables false
set_option maxRecDepth 20000
namespace Go.Proofs.YtnaabpfpldelmaaGreatDoor
open Go Go.Sx
abbrev tTab : TypeId := 536
def stP : EntP := fun k v => ∃ a s1 s2, k = .int .u64 a ∧ v = .agg [.string s1, .string s2].toArray
theorem stP_keys : keysOf .u64 stP := fun k v ⟨a, _, _, h, _⟩ => ⟨a, h⟩
abbrev tabI (t m : Nat) : HProp := pts t (.cells [.map (some m)].toArray tTab (0, 0))
attribute [local irreducible] MidQ wpE wpO wpC qE wpQ wpQO wpH wpHO wpD wpDO wpZ Ev own emp exI sl ch PostS LoopQ Rd rowsAt
theorem al_new : FnDoes Tryz.prog 285 [] [] (fun _ : Nat × Nat => True) (fun y => pt0 y.1) (fun y => [tabI y.1 y.2, mapR y.2 [] 0]) := by
  refine does_of Tryz.func285 rfl rfl Tryz.ntmps285 rfl eNUM (fun c => ?_)
  (refine go ?_; intros)
  refine o_makeMapR (fun m => ?_)
  (refine go ?_; intro b)
  exact q_ret1 rfl rfl (b, m) rfl trivial eNT
theorem al_none (t m : Nat) : FnDoes Tryz.prog 517 [pt0 t] [tabI t m] (fun _ : Unit => True) (fun _ => .bool false) (fun _ => [tabI t m]) := by
  refine does_of Tryz.func517 rfl rfl Tryz.ntmps517 rfl eNUM (fun c => ?_)
  (refine go ?_; intros)
  exact q_ret1 rfl rfl () rfl trivial eNT
def frV : Option (Nat × Nat) → Value
  | none => .tuple #[.map none, .bool false]
  | some p => .tuple #[.map (some p.1), .bool true]
def frL : Option (Nat × Nat) → List HProp
  | none => []
  | some p => [mapS p.1 stP p.2]
theorem al_fresh {G : Rg} (hG : okG G) {v : Value} {k : Nat} (hv : slG G tItm v k) (hk : k ≤ 64) (ow : ByteArray) : FnDoes Tryz.prog 539 [.string ow, v] [rgH G]
    (fun y : Option (Nat × Nat) => ∀ p, y = some p → p.2 ≤ 64) frV (fun y => rgH G :: frL y) := by
  refine does_of Tryz.func539 rfl rfl Tryz.ntmps539 rfl eNUM (fun c => ?_)
  obtain ⟨a, cap, rfl, hc⟩ := hv.isSlice
  (refine go ?_; intros)
  refine o_makeMapS stP (fun bm => ?_)
  (refine go ?_; intros)
  refine wpC_loop (σ := Nat × Nat) (fun s => s.1 ≤ k ∧ s.2 ≤ s.1) (fun s => [(0, .string ow), (6, .map (some bm)), (12, .slice a k cap), (13, nat64 k), (14, nat64 s.1)]) (fun s => [rgH G, mapS bm stP s.2]) (fun s => k - s.1) (0, 0) ⟨Nat.zero_le _, Nat.le_refl _⟩ sUB eNT (fun s hs => ?_)
  obtain ⟨i, m⟩ := s
  obtain ⟨hi, hm⟩ := hs
  try dsimp only at hi hm ⊢
  by_cases hlt : i < k
  · obtain ⟨b, o, w, rfl, hw, hcell⟩ := itm_get hG hv hlt
    have o3 := hw.c3
    have o4 := hw.c4
    have o5 := hw.c5
    have o6 := hw.c6
    have o7 := hw.c7
    (refine go ?_; intro c8)
    cases hh : w.ha with
    | false =>
      (refine go ?_; intros)
      exact q_round (i + 1, m) ⟨hlt, by dsimp only; omega⟩ (by show k - (i + 1) < k - i; omega) sUB eNT
    | true =>
      (refine go ?_; intros)
      refine o_lookupOkS (Φ := stP) (m := m) (zv := .agg [.string ⟨#[]⟩, .string ⟨#[]⟩].toArray) stP_keys rfl rfl rfl rfl rfl rfl pK (fun v ok hok => ?_)
      have hv2 : ∃ s1 s2, v = .agg [.string s1, .string s2].toArray := by
        rcases hok with ⟨_, rfl⟩ | ⟨_, _, s1, s2, _, rfl⟩
        · exact ⟨_, _, rfl⟩
        · exact ⟨_, _, rfl⟩
      obtain ⟨s1, s2, rfl⟩ := hv2
      cases ok with
      | true =>
        (refine go ?_; intro c9)
        exact q_ret2 rfl rfl rfl none rfl (fun p h => by cases h) eNT
      | false =>
        (refine go ?_; intro c9)
        refine o_mapUpdateS (v := .agg [.string ow, .string w.nm].toArray) stP_keys rfl rfl rfl ⟨_, _, _, rfl, rfl⟩ rfl rfl pK (fun m' hm' => ?_)
        (refine go ?_; intros)
        exact q_round (i + 1, m') ⟨hlt, by dsimp only; omega⟩ (by show k - (i + 1) < k - i; omega) sUB eNT
  · (refine go ?_; intros)
    exact q_ret2 rfl rfl rfl (some (bm, m)) rfl (fun p h => by cases h; show m ≤ 64; omega) eNT
theorem al_others (t m : Nat) (ow : ByteArray) (want : Nat) : FnDoes Tryz.prog 540 [pt0 t, .string ow, .map (some want)] [tabI t m, mapR m [] 0] (fun _ : Unit => True) (fun _ => .tuple #[nat64 0, .bool true]) (fun _ => [tabI t m, mapR m [] 0]) := by
  refine does_of Tryz.func540 rfl rfl Tryz.ntmps540 rfl eNUM (fun c => ?_)
  (refine go ?_; intros)
  refine o_rangeR rfl rfl pK (fun r => ?_)
  (refine go ?_; intros)
  refine wpC_loop (σ := Unit) (fun _ => True) (fun _ => [(8, nat64 0), (9, .bool false), (18, pt0 r)]) (fun _ => [tabI t m, mapR m [] 0, itR r m 0 []]) (fun _ => 0) () trivial sUB eNT (fun _ _ => ?_)
  (refine go ?_; intros)
  refine o_nextR (l := []) (bornOk_nil 0) rfl pK pK (fun _ => ?_) (fun e he => by cases he)
  (refine go ?_; intros)
  exact q_ret2 rfl rfl rfl () rfl trivial eNT
theorem al_drop (t m : Nat) (ow : ByteArray) : FnDoes Tryz.prog 465 [pt0 t, .string ow] [tabI t m, mapR m [] 0] (fun _ : Unit => True) (fun _ => nat64 0) (fun _ => [tabI t m, mapR m [] 0]) := by
  refine does_of Tryz.func465 rfl rfl Tryz.ntmps465 rfl eNUM (fun c => ?_)
  (refine go ?_; intros)
  (show wpO _ _ ⟨_, .call _, _, _, _, _⟩ _ _ _ _ _ _; refine o_callA (al_none t m) (fun _ _ => ?_); try simp only [List.cons_append, List.nil_append])
  (refine go ?_; intros)
  refine o_rangeR rfl rfl pK (fun r => ?_)
  (refine go ?_; intros)
  refine wpC_loop (σ := Unit) (fun _ => True) (fun _ => [(5, nat64 0), (14, pt0 r)]) (fun _ => [tabI t m, mapR m [] 0, itR r m 0 []]) (fun _ => 0) () trivial sUB eNT (fun _ _ => ?_)
  (refine go ?_; intros)
  refine o_nextR (l := []) (bornOk_nil 0) rfl pK pK (fun _ => ?_) (fun e he => by cases he)
  (refine go ?_; intros)
  exact q_ret1 rfl rfl () rfl trivial eNT
end Go.Proofs.YtnaabpfpldelmaaGreatDoor
set_option linter.unusedSimpArgs false
set_option linter.unusedVariables false
set_option maxRecDepth 20000
namespace Go.Proofs.YtnaabpfpldelmaaGreatDoor
open Go Go.Sx
attribute [local irreducible] MidQ wpE wpO wpC qE wpQ wpQO wpH wpHO wpD wpDO wpZ Ev own emp exI sl ch PostS LoopQ Rd rowsAt
theorem toS {x : Code} {P : Program} {Q : Exit → Act → World → Prop} {c : Cx} {n : Nat} {L : Env} {M R : List HProp} (m : Nat) (h : wpC P x Q c n L (mapS m stP 0 :: R)) (hp : Pick M (mapR m [] 0) R := by (repeat (first | exact Pick.head | apply Pick.tail))) : wpC P x Q c n L M :=
  wpC_ent (Ent.cons hp (Ent.refl _)) (wpC_ent (Ent.mapS rfl (bornOk_nil 0) entsOk.nil) h)
theorem al_copy (m q : Nat) (j : Nat) : FnDoes Tryz.prog 499 [.map (some m), .map (some q)] [mapR m [] 0, mapS q stP j] (fun _ : Nat => True) (fun _ => .tuple #[]) (fun y => [mapS m stP y]) := by
  refine does_of Tryz.func499 rfl rfl Tryz.ntmps499 rfl eNUM (fun c => ?_)
  refine toS m ?_
  refine wpC_mapS (b := q) (Φ := stP) (m := j) (fun l ck hl hB hE => ?_)
  (refine go ?_; intros)
  refine o_rangeR rfl rfl pK (fun r => ?_)
  (refine go ?_; intros)
  refine wpC_loop (σ := Nat × List Nat) (fun _ => True) (fun _ => [(0, .map (some m)), (7, pt0 r)]) (fun s => [mapS m stP s.1, mapR q l ck, itR r q ck s.2]) (fun s => (Go.Sx.leftOf l s.2).length) (0, []) trivial sUB eNT (fun s _ => ?_)
  obtain ⟨k1, seen⟩ := s
  try dsimp only
  (refine go ?_; intros)
  refine o_nextR (l := l) hB rfl pK pK (fun _ => ?_) (fun e he => ?_)
  · (refine go ?_; intros)
    exact q_ret0 rfl k1 rfl trivial eNT _ (.inr rfl)
  · (refine go ?_; intros)
    refine o_entryR (l := l) (s0 := seen) (st := e.born) rfl pK pK (List.mem_filter.1 he).1 rfl (fun e2 he2 => ?_)
    obtain ⟨a, s1, s2, hk, hv⟩ := hE e2 he2
    rw [hk, hv]
    (refine go ?_; intro c5)
    refine o_mapUpdateS (v := .agg [.string s1, .string s2].toArray) stP_keys rfl rfl rfl ⟨_, _, _, rfl, rfl⟩ rfl rfl pK (fun m' hm' => ?_)
    (refine go ?_; intros)
    exact q_round (m', seen ++ [e.born]) trivial (left_less he) sUB eNT
theorem al_may {G : Rg} (hG : okG G) {v : Value} {k : Nat} (hv : slG G tItm v k) (hk : k ≤ 64) (ow : ByteArray) (t m : Nat) : FnDoes Tryz.prog 498 [pt0 t, .string ow, v] [rgH G, tabI t m, mapR m [] 0]
    (fun y : Option (Nat × Nat) × Nat => (y.2 = 0 → ∃ p, y.1 = some p) ∧ y.2 ≤ 255) (fun y => .tuple #[(match y.1 with | none => .map none | some p => .map (some p.1)), nat64 y.2]) (fun y => rgH G :: tabI t m :: mapR m [] 0 :: frL y.1) := by
  have hv1 := hv.one
  refine does_of Tryz.func498 rfl rfl Tryz.ntmps498 rfl eNUM (fun c => ?_)
  (refine go ?_; intros)
  (show wpO _ _ ⟨_, .call _, _, _, _, _⟩ _ _ _ _ _ _; refine o_callA (al_none t m) (fun _ _ => ?_); try simp only [List.cons_append, List.nil_append])
  (refine go ?_; intros)
  have hf := al_fresh hG hv hk ow
  (show wpO _ _ ⟨_, .call _, _, _, _, _⟩ _ _ _ _ _ _; refine o_callA (hf) (fun p hp => ?_); try simp only [List.cons_append, List.nil_append])
  cases p with
  | none =>
    (refine go ?_; intros)
    exact q_ret2 rfl rfl rfl (none, 16) rfl ⟨fun h => absurd h (by decide), (by decide : 16 ≤ 255)⟩ eNT
  | some p =>
    obtain ⟨bm, j⟩ := p
    have hj := hp _ rfl
    try dsimp only at hj ⊢
    (refine go ?_; intros)
    (show wpO _ _ ⟨_, .call _, _, _, _, _⟩ _ _ _ _ _ _; refine o_callA (al_others t m ow bm) (fun _ _ => ?_); try simp only [List.cons_append, List.nil_append])
    (refine go ?_; intros)
    refine o_evB (ev_lenS (b := bm) (Φ := stP) (m := j) rfl rfl pK) ?_
    by_cases h : j > 64
    · omega
    · (refine go ?_; intros)
      exact q_ret2 rfl rfl rfl (some (bm, j), 0) rfl ⟨fun _ => ⟨_, rfl⟩, Nat.zero_le _⟩ eNT
theorem al_set {G : Rg} (hG : okG G) {v : Value} {k : Nat} (hv : slG G tItm v k) (hk : k ≤ 64) (ow : ByteArray) (t m : Nat) : FnDoes Tryz.prog 451 [pt0 t, .string ow, v] [rgH G, tabI t m, mapR m [] 0]
    (fun y : Nat => y ≤ 255) (fun y => nat64 y) (fun _ => [rgH G, tabI t m]) := by
  have hv1 := hv.one
  refine does_of Tryz.func451 rfl rfl Tryz.ntmps451 rfl eNUM (fun c => ?_)
  have hf := al_may hG hv hk ow t m
  (refine go ?_; intros)
  (show wpO _ _ ⟨_, .call _, _, _, _, _⟩ _ _ _ _ _ _; refine o_callA (hf) (fun ⟨p, e⟩ hp => ?_); try simp only [List.cons_append, List.nil_append])
  obtain ⟨hp, he⟩ := hp
  try dsimp only at hp he ⊢
  by_cases h0 : e = 0
  · obtain ⟨⟨bm, j⟩, rfl⟩ := hp h0
    subst h0
    (refine go ?_; intros)
    (show wpO _ _ ⟨_, .call _, _, _, _, _⟩ _ _ _ _ _ _; refine o_callA (al_drop t m ow) (fun _ _ => ?_); try simp only [List.cons_append, List.nil_append])
    (refine go ?_; intros)
    have hc := al_copy m bm j
    simp only [frL, List.cons_append, List.nil_append, List.append_nil]
    (show wpO _ _ ⟨_, .call _, _, _, _, _⟩ _ _ _ _ _ _; refine o_callA (hc) (fun _ _ => ?_); try simp only [List.cons_append, List.nil_append])
    (refine go ?_; intros)
    exact q_ret1 rfl rfl 0 rfl (Nat.zero_le _) eNT
  · have h1 : (e : Int) ≠ 0 := by omega
    cases p with
    | none =>
      (refine go ?_; intros)
      exact q_ret1 rfl rfl e rfl he eNT
    | some p =>
      (refine go ?_; intros)
      exact q_ret1 rfl rfl e rfl he eNT
end Go.Proofs.YtnaabpfpldelmaaGreatDoor
set_option linter.unusedSimpArgs false
set_option linter.unusedVariables false
set_option maxRecDepth 20000
namespace Go.Proofs.YtnaabpfpldelmaaGreatDoor
open Go Go.Sx
abbrev tRow : TypeId := 533
abbrev tEdg : TypeId := 435
abbrev rowI (r : Nat) (x : Int) (b : Bool) : HProp := pts r (.cells [.int .u8 x, .bool b, .bool true].toArray tRow (0, 0))
attribute [local irreducible] MidQ wpE wpO wpC qE wpQ wpQO wpH wpHO wpD wpDO wpZ Ev own emp exI sl ch PostS LoopQ Rd rowsAt
theorem sq_new : FnDoes Tryz.prog 284 [] [] (fun _ : Nat => True) (fun r => pt0 r) (fun r => [rowI r 0 false]) := by
  refine does_of Tryz.func284 rfl rfl Tryz.ntmps284 rfl eNUM (fun c => ?_)
  (refine go ?_; intro b)
  exact q_ret1 rfl rfl b rfl trivial eNT
theorem sq_of (k : Nat) (hk : k ≤ 255) : FnDoes Tryz.prog 500 [nat64 k] [] (fun _ : Unit => True) (fun _ => .tuple #[.int .u8 k, .bool true]) (fun _ => []) := by
  refine does_of Tryz.func500 rfl rfl Tryz.ntmps500 rfl eNUM (fun c => ?_)
  (refine go ?_; intros)
  exact q_ret2 rfl rfl rfl () rfl trivial eNT
theorem sq_none (r : Nat) (x : Int) (b : Bool) : FnDoes Tryz.prog 501 [pt0 r] [rowI r x b] (fun _ : Unit => True) (fun _ => .bool false) (fun _ => [rowI r x b]) := by
  refine does_of Tryz.func501 rfl rfl Tryz.ntmps501 rfl eNUM (fun c => ?_)
  (refine go ?_; intros)
  exact q_ret1 rfl rfl () rfl trivial eNT
theorem sq_next (k : Int) : FnDoes Tryz.prog 503 [.int .u8 k] [] (fun _ : Int => True) (fun y => .int .u8 y) (fun _ => []) := by
  refine does_of Tryz.func503 rfl rfl Tryz.ntmps503 rfl eNUM (fun c => ?_)
  (refine go ?_; intros)
  refine o_evI (ev_arith rfl rfl rfl rfl) (wrap_in _ _) (fun m hm => ?_)
  (refine go ?_; intros)
  exact q_ret1 rfl rfl m rfl trivial eNT
theorem sq_goOn (r : Nat) (x : Int) (b : Bool) (k : Int) : FnDoes Tryz.prog 502 [pt0 r, .func (.func 503) [.int .u8 k].toArray #[]] [rowI r x b] (fun _ : Int => True) (fun _ => .tuple #[]) (fun y => [rowI r y true]) := by
  refine does_of Tryz.func502 rfl rfl Tryz.ntmps502 rfl eNUM (fun c => ?_)
  (refine go ?_; intros)
  refine o_callB (bd := [.int .u8 k]) (args := []) (fr := []) (sq_next k) (fun y _ => ?_)
  simp only [List.cons_append, List.nil_append]
  (refine go ?_; intros)
  exact q_ret0 rfl y rfl trivial eNT _ (.inr rfl)
theorem sq_begin (r : Nat) (x : Int) (b : Bool) (k : Nat) (hk : k ≤ 255) : FnDoes Tryz.prog 452 [pt0 r, nat64 k] [rowI r x b] (fun _ : Int => True) (fun _ => nat64 0) (fun y => [rowI r y true]) := by
  refine does_of Tryz.func452 rfl rfl Tryz.ntmps452 rfl eNUM (fun c => ?_)
  (refine go ?_; intros)
  (show wpO _ _ ⟨_, .call _, _, _, _, _⟩ _ _ _ _ _ _; refine o_callA (sq_of k hk) (fun _ _ => ?_); try simp only [List.cons_append, List.nil_append])
  (refine go ?_; intros)
  (show wpO _ _ ⟨_, .call _, _, _, _, _⟩ _ _ _ _ _ _; refine o_callA (sq_none r x b) (fun _ _ => ?_); try simp only [List.cons_append, List.nil_append])
  (refine go ?_; intros)
  refine o_evB (ev_makeFunc (vb := [.int .u8 k]) (vf := []) rfl rfl) ?_
  (refine go ?_; intros)
  have h := sq_goOn r x b k
  (show wpO _ _ ⟨_, .call _, _, _, _, _⟩ _ _ _ _ _ _; refine o_callA (h) (fun y _ => ?_); try simp only [List.cons_append, List.nil_append])
  (refine go ?_; intros)
  exact q_ret1 rfl rfl y rfl trivial eNT
structure EdgS where
  g : ByteArray
  nm : ByteArray
  on : Bool
  bd : Int
  r : Nat
  odd : Bool
  its : Value
  t : Nat
abbrev edgC (s : EdgS) : List Value := [.string s.g, .string s.nm, .bool s.on, .int .i64 s.bd, pt0 s.r, .bool s.odd, s.its, pt0 s.t, .slice none 0 0]
abbrev edgI (e : Nat) (s : EdgS) : HProp := pts e (.cells (edgC s).toArray tEdg (0, 0))
def edg0 (g nm : ByteArray) (r t : Nat) : EdgS := ⟨g, nm, false, 0, r, false, .slice none 0 0, t⟩
theorem ed_clash (k : Nat) : FnDoes Tryz.prog 450 [nat64 k] [] (fun y : Nat => y ≤ 255 ∧ (k = 0 → y = 1)) (fun y => nat64 y) (fun _ => []) := by
  refine does_of Tryz.func450 rfl rfl Tryz.ntmps450 rfl eNUM (fun c => ?_)
  by_cases h0 : k = 0
  · subst h0
    (refine go ?_; intros)
    exact q_ret1 rfl rfl 1 rfl ⟨by decide, fun _ => rfl⟩ eNT
  · by_cases h1 : k = 16
    · subst h1
      (refine go ?_; intros)
      exact q_ret1 rfl rfl 10 rfl ⟨by decide, fun h => absurd h h0⟩ eNT
    · have e0 : (k : Int) ≠ 0 := by omega
      have e1 : (k : Int) ≠ 16 := by omega
      (refine go ?_; intros)
      exact q_ret1 rfl rfl 8 rfl ⟨by decide, fun h => absurd h h0⟩ eNT
structure EdN where
  e : Nat
  r : Nat
  t : Nat
  m : Nat
def ednL (g nm : ByteArray) (p : EdN) : List HProp := [edgI p.e (edg0 g nm p.r p.t), rowI p.r 0 false, tabI p.t p.m, mapR p.m [] 0]
theorem ed_new (g nm : ByteArray) : FnDoes Tryz.prog 221 [.string g, .string nm] [] (fun y : Option EdN => True) (fun y => match y with | none => .tuple #[.pointer none, nat64 1] | some p => .tuple #[pt0 p.e, nat64 0]) (fun y => match y with | none => [] | some p => ednL g nm p) := by
  refine does_of Tryz.func221 rfl rfl Tryz.ntmps221 rfl eNUM (fun c => ?_)
  by_cases hg : g = (⟨#[]⟩ : ByteArray)
  · (refine go ?_; intros)
    exact q_ret2 rfl rfl rfl none rfl trivial eNT
  · by_cases hn : nm = (⟨#[]⟩ : ByteArray)
    · (refine go ?_; intros)
      exact q_ret2 rfl rfl rfl none rfl trivial eNT
    · (refine go ?_; intros)
      (show wpO _ _ ⟨_, .call _, _, _, _, _⟩ _ _ _ _ _ _; refine o_callA (sq_new) (fun r _ => ?_); try simp only [List.cons_append, List.nil_append])
      (refine go ?_; intros)
      (show wpO _ _ ⟨_, .call _, _, _, _, _⟩ _ _ _ _ _ _; refine o_callA (al_new) (fun ⟨t, m⟩ _ => ?_); try simp only [List.cons_append, List.nil_append])
      (refine go ?_; intro b)
      exact q_ret2 rfl rfl rfl (some ⟨b, r, t, m⟩) rfl trivial eNT
theorem ed_none (e : Nat) (s : EdgS) (h1 : s.its.oneCell' = true) : FnDoes Tryz.prog 290 [pt0 e] [edgI e s] (fun _ : Unit => True) (fun _ => .bool false) (fun _ => [edgI e s]) := by
  refine does_of Tryz.func290 rfl rfl Tryz.ntmps290 rfl eNUM (fun c => ?_)
  (refine go ?_; intros)
  exact q_ret1 rfl rfl () rfl trivial eNT
theorem ed_refuse (g nm : ByteArray) (p : EdN) : FnDoes Tryz.prog 223 [pt0 p.e] (ednL g nm p) (fun _ : Unit => True) (fun _ => nat64 3) (fun _ => []) := by
  unfold ednL
  have hn := ed_none p.e (edg0 g nm p.r p.t) rfl
  unfold edg0 at hn ⊢
  refine does_of Tryz.func223 rfl rfl Tryz.ntmps223 rfl eNUM (fun c => ?_)
  (refine go ?_; intros)
  (show wpO _ _ ⟨_, .call _, _, _, _, _⟩ _ _ _ _ _ _; refine o_callA (hn) (fun _ _ => ?_); try simp only [List.cons_append, List.nil_append])
  (refine go ?_; intros)
  exact q_ret1 rfl rfl () rfl trivial eNT
end Go.Proofs.YtnaabpfpldelmaaGreatDoor
set_option linter.unusedSimpArgs false
set_option linter.unusedVariables false
set_option maxRecDepth 20000
namespace Go.Proofs.YtnaabpfpldelmaaGreatDoor
open Go Go.Sx Go.Extern
abbrev tRT : TypeId := 472
abbrev tRV : TypeId := 484
abbrev tErr : TypeId := 316
noncomputable abbrev hT (t : TypeId) : Value := .agg [typeHandle Tryz.prog t].toArray
noncomputable abbrev rtV (t : TypeId) : Value := .iface tRT (hT t)
noncomputable abbrev rvC (t : TypeId) (a : Addr) (fl : Int) : List Value := [typeHandle Tryz.prog t, .pointer (some a), .int .u64 fl]
noncomputable abbrev rvV (t : TypeId) (a : Addr) (fl : Int) : Value := .agg (rvC t a fl).toArray
theorem rlm (z : Sem Value) (f : TypeId → Addr → Nat → Nat → Sem Value) (v : Value) :
    ReflectliteValue.method z f #[v] = (do match ← ReflectliteValue.parts v with | none => z | some (t, a, fl) => f t a fl (fl % 32)) := rfl
theorem rls (v x : Value) : ReflectliteValue.set #[v, x] = (do
    let (some (dst, a, fl), some (src, b, _)) := (← ReflectliteValue.parts v, ← ReflectliteValue.parts x)
      | unsupported (.noEntry "extern/(internal/reflectlite.Value).Set.zeroValue")
    if fl / ReflectliteValue.flagAddr % 2 == 0 then unsupported (.noEntry "extern/(internal/reflectlite.Value).Set.unaddressable")
    let val ← loadVar src b
    if ← Rtype.directlyAssignable dst src then storeVar dst a val
    else if ← Rtype.implements dst src then
      if (← Rtype.kind src) == 20 then
        match val with
        | .nilIface => unsupported (.noEntry "extern/reflectlite: a nil value of one interface type handed on as a value of another")
        | _ => storeVar dst a val
      else storeVar dst a (.iface src val)
    else panicString ("reflectlite.Set: value of type " ++ (← Rtype.spelt src) ++ " is not assignable to type " ++ (← Rtype.spelt dst))
    pure (.tuple #[])) := rfl
abbrev tRR : TypeId := 692
theorem r_typ (w : World) (a : Addr) : (callFunc 314 [rvV tRR a 150].toArray).run Tryz.prog w = .ok (.value (rtV tRR)) w := by kernel_rfl
theorem r_kind (w : World) : (callMethod (rtV tRR) "Kind" [].toArray).run Tryz.prog w = .ok (.value (.int .u8 22)) w := by kernel_rfl
theorem r_vof (w : World) (a : Addr) : (callFunc 313 [.iface tRR (.pointer (some a))].toArray).run Tryz.prog w = .ok (.value (rvV tRR ⟨w.heap.size, 0, none⟩ 150)) (w.alloc (.cells [.pointer (some a)].toArray tRR (0, 0))) := by kernel_rfl
theorem r_elem (w : World) : (callMethod (rtV tRR) "Elem" [].toArray).run Tryz.prog w = .ok (.value (rtV tRef)) w := by kernel_rfl
theorem r_kind2 (w : World) : (callMethod (rtV tRef) "Kind" [].toArray).run Tryz.prog w = .ok (.value (.int .u8 22)) w := by kernel_rfl
theorem r_impl (w : World) : (callMethod (rtV tRef) "Implements" [rtV tErr].toArray).run Tryz.prog w = .ok (.value (.bool true)) w := by kernel_rfl
theorem r_tof (w : World) (v : Value) : (callFunc 242 [.iface tRef v].toArray).run Tryz.prog w = .ok (.value (rtV tRef)) w := by kernel_rfl
theorem r_asg (w : World) : (callMethod (rtV tRef) "AssignableTo" [rtV tRef].toArray).run Tryz.prog w = .ok (.value (.bool true)) w := by kernel_rfl
theorem r_vof2 (w : World) (a : Addr) : (callFunc 313 [.iface tRef (.pointer (some a))].toArray).run Tryz.prog w = .ok (.value (rvV tRef ⟨w.heap.size, 0, none⟩ 150)) (w.alloc (.cells [.pointer (some a)].toArray tRef (0, 0))) := by kernel_rfl
theorem r_parts (w : World) (a : Addr) : (ReflectliteValue.parts (rvV tRR a 150)).run Tryz.prog w = .ok (some (tRR, a, 150)) w := by kernel_rfl
theorem u_RR : Tryz.prog.underlying tRR = some (.pointer tRef) := by kernel_rfl
theorem u_Ref : Tryz.prog.underlying tRef = some (.pointer 694) := by kernel_rfl
theorem r_isNil (w : World) (a p : Addr) (ha : w.cell? a = some (.pointer (some p))) : (callFunc 315 [rvV tRR a 150].toArray).run Tryz.prog w = .ok (.value (.bool false)) w := by
  rw [run_callFunc_extern (e := ReflectliteValue.method (ReflectliteValue.valueError "reflectlite.Value.IsNil" 0) ReflectliteValue.isNil) Tryz.func315 (by kernel_rfl) (by kernel_rfl) (by kernel_rfl) (by kernel_rfl)]
  rw [rlm]
  simp only [Sem.run_bind, r_parts, Result.andThen]
  have hl := run_loadVar_one (P := Tryz.prog) u_RR rfl ha
  simp [ReflectliteValue.isNil, hl]
theorem r_elemOf (w : World) : (Rtype.elem? tRR).run Tryz.prog w = .ok (some tRef) w := by kernel_rfl
theorem r_mk (w : World) (p : Addr) : (ReflectliteValue.mk tRef p ReflectliteValue.flagAddr).run Tryz.prog w = .ok (rvV tRef p 406) w := by kernel_rfl
theorem r_elemV (w : World) (a p : Addr) (ha : w.cell? a = some (.pointer (some p))) : (callFunc 395 [rvV tRR a 150].toArray).run Tryz.prog w = .ok (.value (rvV tRef p 406)) w := by
  rw [run_callFunc_extern (e := ReflectliteValue.method (ReflectliteValue.valueError "reflectlite.Value.Elem" 0) ReflectliteValue.elem) Tryz.func395 (by kernel_rfl) (by kernel_rfl) (by kernel_rfl) (by kernel_rfl)]
  rw [rlm]
  simp only [Sem.run_bind, r_parts, Result.andThen]
  have hl := run_loadVar_one (P := Tryz.prog) u_RR rfl ha
  simp [ReflectliteValue.elem, hl, r_elemOf, r_mk]
theorem r_parts2 (w : World) (a : Addr) : (ReflectliteValue.parts (rvV tRef a 406)).run Tryz.prog w = .ok (some (tRef, a, 406)) w := by kernel_rfl
theorem r_parts3 (w : World) (a : Addr) : (ReflectliteValue.parts (rvV tRef a 150)).run Tryz.prog w = .ok (some (tRef, a, 150)) w := by kernel_rfl
theorem r_dir (w : World) : (Rtype.directlyAssignable tRef tRef).run Tryz.prog w = .ok true w := by kernel_rfl
theorem r_set (w : World) (tb b e : Nat) (old : Value) (T' : TypeId) (hb : w.cell? ⟨b, 0, none⟩ = some (pt0 e)) (ht : w.heap[tb]? = some (.cells [old].toArray T' (0, 0))) :
    (callFunc 396 [rvV tRef ⟨tb, 0, none⟩ 406, rvV tRef ⟨b, 0, none⟩ 150].toArray).run Tryz.prog w = .ok (.value (.tuple #[])) (w.setRow tb [pt0 e].toArray) := by
  rw [run_callFunc_extern (e := ReflectliteValue.set) Tryz.func396 (by kernel_rfl) (by kernel_rfl) (by kernel_rfl) (by kernel_rfl)]
  rw [rls]
  simp only [Sem.run_bind, r_parts2, r_parts3, Result.andThen]
  have hl := run_loadVar_one (P := Tryz.prog) u_Ref rfl hb
  have hs := Go.Sx.run_storeVar_row (P := Tryz.prog) (t := tRef) (v := pt0 e) (vs := [pt0 e]) (off := 0) (by rfl) rfl (by rfl) (by simp [oc_ptr]) ht (by simp)
  simp at hs
  simp [ReflectliteValue.flagAddr, hl, r_dir, hs]
end Go.Proofs.YtnaabpfpldelmaaGreatDoor
set_option linter.unusedSimpArgs false
set_option linter.unusedVariables false
namespace Go.Sx
open Go Go.Conc
section
variable {P : Program} {c : Cx} {n : Nat} {L : Env} {M : List HProp} {dst : Option Nat} {ty : TypeId} {pos : String} {after : Array Edge} {g : Option (Nat × Bool)} {op : BinOp} {t t' : TypeId} {x : Operand} {r : Bool}
theorem ev_nilIf0 {m : Array (String × TypeId)} (hx : opnd L x = some .nilIface) (hu : P.underlying t = some (.interface m)) (hr : nilOp op true = some r) : Ev P ⟨dst, .binOp op t x (.const .nilIface) t', ty, pos, after, g⟩ c n L M (.bool r) := ev_bin hx rfl fun w _ =>
  run_eqn (by rintro _ (rfl | rfl) <;> (cases x <;> rfl)) rfl rfl (by rw [Op.equalIn, Sem.run_bind, run_underlying hu]; rfl) hr
theorem ev_nilIf1 {m : Array (String × TypeId)} {d : TypeId} {u : Value} (hx : opnd L x = some (.iface d u)) (hu : P.underlying t = some (.interface m)) (hr : nilOp op false = some r) : Ev P ⟨dst, .binOp op t x (.const .nilIface) t', ty, pos, after, g⟩ c n L M (.bool r) := ev_bin hx rfl fun w _ =>
  run_eqn (by rintro _ (rfl | rfl) <;> rfl) rfl rfl (by rw [Op.equalIn, Sem.run_bind, run_underlying hu]; rfl) hr
end
end Go.Sx
set_option maxRecDepth 20000
namespace Go.Proofs.YtnaabpfpldelmaaGreatDoor
open Go Go.Sx
def erG (G : Rg) : Prop := G.1 2 = none ∧ ∃ e f, G.2 2 = some (.cells [rtV tErr].toArray e f)
theorem erG.up {G G' : Rg} (h : erG G) (g : grG G G') : erG G' := by
  obtain ⟨h1, e, f, h2⟩ := h
  obtain ⟨k1, k2⟩ := g.keep _ _ h2 h1
  exact ⟨k1, e, f, k2⟩
theorem erG.at {G : Rg} (h : erG G) : G.2.cell? ⟨2, 0, none⟩ = some (rtV tErr) := by
  obtain ⟨_, e, f, h2⟩ := h
  simp [PHeap.cell?, h2]
theorem s_cell {c : Cx} {M R : List HProp} {b : Nat} {u : Value} {l : List Value} {T' : TypeId} (hp : Pick M (pts b (.cells (u :: l).toArray T' (0, 0))) R) : ∀ w, HSt c M w → w.cell? ⟨b, 0, none⟩ = some u := fun w s => by
  have h := s.pts hp
  simp [World.cell?, h]
attribute [local irreducible] MidQ wpE wpO wpC qE wpQ wpQO wpH wpHO wpD wpDO wpZ Ev own emp exI sl ch PostS LoopQ Rd rowsAt
set_option maxHeartbeats 1000000 in
theorem er_as (b t b1 : Nat) : FnDoes Tryz.prog 316 [.iface tRef (pt0 b), .iface tRR (pt0 t), rvV tRR ⟨b1, 0, none⟩ 150, rtV tRef] [pts b1 (.cells [pt0 t].toArray tRR (0, 0)), pts t (.cells [.pointer none].toArray tRef (0, 0))]
    (fun _ : Unit => True) (fun _ => .bool true) (fun _ => [pts t (.cells [pt0 b].toArray tRef (0, 0))]) := by
  refine does_of Tryz.func316 rfl rfl Tryz.ntmps316 rfl eNUM (fun c => ?_)
  (refine go ?_; intro c6)
  refine wpC_loop (σ := Unit) (fun _ => True) (fun _ => [(0, .iface tRef (pt0 b)), (1, .iface tRR (pt0 t)), (3, rtV tRef), (6, pt0 c6)]) (fun _ => [pts c6 (.cells (rvC tRR ⟨b1, 0, none⟩ 150).toArray tRV (0, 0)), pts b1 (.cells [pt0 t].toArray tRR (0, 0)), pts t (.cells [.pointer none].toArray tRef (0, 0))]) (fun _ => 0) () trivial sUB eNT (fun _ _ => ?_)
  (refine go ?_; intros)
  refine o_extP (fun w => r_tof w (pt0 b)) ?_
  (refine go ?_; intros)
  refine o_iextP r_asg ?_
  (refine go ?_; intros)
  refine o_extR (fun w h => r_elemV w ⟨b1, 0, none⟩ ⟨t, 0, none⟩ h) (s_cell pK) ?_
  (refine go ?_; intros)
  refine o_extN (v := fun q => rvV tRef ⟨q, 0, none⟩ 150) (fun w => r_vof2 w ⟨b, 0, none⟩) (fun b2 => ?_)
  (refine go ?_; intros)
  refine o_ext (fun w s => ⟨_, _, _, r_set w t b2 b (.pointer none) tRef (s_cell pK w s) (s.pts pK), hst_setRow pK s, ?_⟩)
  (refine go ?_; intros)
  exact q_ret1 rfl rfl () rfl trivial eNT
set_option maxHeartbeats 1000000 in
theorem er_As {G : Rg} (hE : erG G) (b t : Nat) : FnDoes Tryz.prog 244 [.iface tRef (pt0 b), .iface tRR (pt0 t)] [rgH G, pts t (.cells [.pointer none].toArray tRef (0, 0))]
    (fun _ : Unit => True) (fun _ => .bool true) (fun _ => [rgH G, pts t (.cells [pt0 b].toArray tRef (0, 0))]) := by
  have he := hE.at
  refine does_of Tryz.func244 rfl rfl Tryz.ntmps244 rfl eNUM (fun c => ?_)
  (refine go ?_; intros)
  refine o_evB (ev_nilIf1 rfl rfl rfl) ?_
  (refine go ?_; intros)
  refine o_evB (ev_nilIf1 rfl rfl rfl) ?_
  (refine go ?_; intros)
  refine o_extN (v := fun q => rvV tRR ⟨q, 0, none⟩ 150) (fun w => r_vof w ⟨t, 0, none⟩) (fun b1 => ?_)
  (refine go ?_; intro c5)
  refine o_extP (fun w => r_typ w ⟨b1, 0, none⟩) ?_
  (refine go ?_; intros)
  refine o_iextP r_kind ?_
  (refine go ?_; intros)
  refine o_extR (fun w h => r_isNil w ⟨b1, 0, none⟩ ⟨t, 0, none⟩ h) (s_cell pK) ?_
  (refine go ?_; intros)
  refine o_iextP r_elem ?_
  (refine go ?_; intros)
  refine o_iextP r_kind2 ?_
  (refine go ?_; intros)
  refine o_iextP r_impl ?_
  (refine go ?_; intros)
  (show wpO _ _ ⟨_, .call _, _, _, _, _⟩ _ _ _ _ _ _; refine o_callA (er_as b t b1) (fun _ _ => ?_); try simp only [List.cons_append, List.nil_append])
  (refine go ?_; intros)
  exact q_ret1 rfl rfl () rfl trivial eNT
theorem er_nil (v : Value) : FnDoes Tryz.prog 244 [.nilIface, v] [] (fun _ : Unit => True) (fun _ => .bool false) (fun _ => []) := by
  refine does_of Tryz.func244 rfl rfl Tryz.ntmps244 rfl eNUM (fun c => ?_)
  (refine go ?_; intros)
  refine o_evB (ev_nilIf0 rfl rfl rfl) ?_
  (refine go ?_; intros)
  exact q_ret1 rfl rfl () rfl trivial eNT
end Go.Proofs.YtnaabpfpldelmaaGreatDoor
