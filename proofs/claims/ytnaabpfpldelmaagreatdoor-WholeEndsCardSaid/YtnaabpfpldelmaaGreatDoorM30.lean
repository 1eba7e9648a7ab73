/-
  Filters, where nobody wants anything: nobody wants a name. Messages that stay, where none stays.
  Heads of packets: read.
  Heads of packets: got.
  Rows that have no room: cut to nothing, appended to. No program in sight.
-/
import Derived.Test.YtnaabpfpldelmaaGreatDoorM29
import Derived.Test.YtnaabpfpldelmaaGreatDoorM27
import Derived.Test.YtnaabpfpldelmaaGreatDoorM28
import Derived.Test.YtnaabpfpldelmaaGreatDoorM23
set_option linter.unusedSimpArgs false
set_option linter.unusedVariables false
namespace Go.Sx
open Go Go.Conc
theorem x_delete0 {P : Program} {c : Cx} {n : Nat} {L : Env} {M R : List HProp} {dst : Option Nat} {ty : TypeId} {pos : String} {after : Array Edge} {g : Option (Nat × Bool)} {K : Env → List HProp → Prop} {t kt et tk : TypeId} {x y : Operand} {b ck : Nat} {k : Value} (hk : KeyOk P kt k) (hx : opnd L x = some (.map (some b))) (hy : opnd L y = some k) (hu : P.underlying t = some (.map kt et)) (hp : Pick M (mapR b [] ck) R)
    (h : K L (mapR b [] ck :: R)) : OVN P ⟨dst, .call { callee := .builtin .delete, args := #[x, y], argTypes := #[t, tk] }, ty, pos, after, g⟩ c n L M K := fun T w s => by
  have hb := s.heap.pts hp
  have hg : (getObj b).run P w = .ok (.map #[] ck) w := by simp [getObj, Sem.run, hb]
  have h1 := hk.chk true w
  have h2 := hk.fnd w
  have hst := hst_setMap (l := []) (l' := []) ck (s.heap.ent (Ent.cons hp (Ent.refl _)))
  refine ⟨.tuple #[], _, _, ?_, hst, h⟩
  simp [execOp, resolve, invoke, builtin, opnd_eval s.slots hx, opnd_eval s.slots hy, Builtin.delete_, run_underlying hu, hg, h1, h2, run_setMap hb]
end Go.Sx
set_option maxRecDepth 20000
namespace Go.Proofs.YtnaabpfpldelmaaGreatDoor
open Go Go.Sx
abbrev keyF (b : Nat) : Value := .func (.func 216) #[] [pt0 b].toArray
attribute [local irreducible] MidQ wpE wpO wpC qE wpQ wpQO wpH wpHO wpD wpDO wpZ Ev own emp exI sl ch PostS LoopQ Rd rowsAt
theorem so_sort : FnDoes Tryz.prog 215 [.slice none 0 0] [] (fun _ : Unit => True) (fun _ => .tuple #[]) (fun _ => []) := by
  have h1 : FnDoes Tryz.prog 353 [.slice none 0 0, nat64 0, nat64 0] [] (fun _ : Unit => True) (fun _ => .tuple #[]) (fun _ => []) := by
    refine does_of Tryz.func353 rfl rfl Tryz.ntmps353 rfl eNUM (fun c => ?_)
    (refine go ?_; intros)
    refine wpC_loop (σ := Unit) (fun _ => True) (fun _ => [(2, nat64 0), (6, .int .i64 1)]) (fun _ => []) (fun _ => 0) () trivial sUB eNT (fun _ _ => ?_)
    (refine go ?_; intros)
    exact q_ret0 rfl () rfl trivial eNT _ (.inr rfl)
  have h2 : FnDoes Tryz.prog 281 [.slice none 0 0, nat64 0, nat64 0, nat64 0] [] (fun _ : Unit => True) (fun _ => .tuple #[]) (fun _ => []) := by
    refine does_of Tryz.func281 rfl rfl Tryz.ntmps281 rfl eNUM (fun c => ?_)
    (refine go ?_; intros)
    refine wpC_loop (σ := Unit) (fun _ => True) (fun _ => [(0, .slice none 0 0), (1, nat64 0), (2, nat64 0)]) (fun _ => []) (fun _ => 0) () trivial sUB eNT (fun _ _ => ?_)
    (refine go ?_; intros)
    (show wpO _ _ ⟨_, .call _, _, _, _, _⟩ _ _ _ _ _ _; refine o_callA (h1) (fun _ _ => ?_); try simp only [List.cons_append, List.nil_append])
    (refine go ?_; intros)
    exact q_ret0 rfl () rfl trivial eNT _ (.inl rfl)
  refine does_of Tryz.func215 rfl rfl Tryz.ntmps215 rfl eNUM (fun c => ?_)
  (refine go ?_; intros)
  (show wpO _ _ ⟨_, .call _, _, _, _, _⟩ _ _ _ _ _ _; refine o_callA (bt_len) (fun _ _ => ?_); try simp only [List.cons_append, List.nil_append])
  (refine go ?_; intros)
  (show wpO _ _ ⟨_, .call _, _, _, _, _⟩ _ _ _ _ _ _; refine o_callA (h2) (fun _ _ => ?_); try simp only [List.cons_append, List.nil_append])
  (refine go ?_; intros)
  exact q_ret0 rfl () rfl trivial eNT _ (.inr rfl)
theorem so_sorted (b m : Nat) : FnDoes Tryz.prog 153 [keyF b] [bxI b m, mapR m [] 0] (fun _ : Unit => True) (fun _ => .slice none 0 0) (fun _ => []) := by
  have h1 : FnDoes Tryz.prog 214 [keyF b] [bxI b m, mapR m [] 0] (fun _ : Unit => True) (fun _ => .slice none 0 0) (fun _ => []) := by
    have ha := sl_append b m
    refine does_of Tryz.func214 rfl rfl Tryz.ntmps214 rfl eNUM (fun c => ?_)
    (refine go ?_; intros)
    (show wpO _ _ ⟨_, .call _, _, _, _, _⟩ _ _ _ _ _ _; refine o_callA (ha) (fun _ _ => ?_); try simp only [List.cons_append, List.nil_append])
    (refine go ?_; intros)
    exact q_ret1 rfl rfl () rfl trivial eNT
  refine does_of Tryz.func153 rfl rfl Tryz.ntmps153 rfl eNUM (fun c => ?_)
  (refine go ?_; intros)
  (show wpO _ _ ⟨_, .call _, _, _, _, _⟩ _ _ _ _ _ _; refine o_callA (h1) (fun _ _ => ?_); try simp only [List.cons_append, List.nil_append])
  (refine go ?_; intros)
  (show wpO _ _ ⟨_, .call _, _, _, _, _⟩ _ _ _ _ _ _; refine o_callA (so_sort) (fun _ _ => ?_); try simp only [List.cons_append, List.nil_append])
  (refine go ?_; intros)
  exact q_ret1 rfl rfl () rfl trivial eNT
set_option maxHeartbeats 1000000 in
theorem tr_hits {G : Rg} (hG : okG G) (hV : vG G) (T : TriS) (s : ByteArray) (hs : s.size ≤ 65536) : FnDoes Tryz.prog 109 [pt0 T.t, .string s] (rgH G :: triL T) (fun y : Rg => okG y ∧ grG G y) (fun _ => .slice none 0 0) (fun y => rgH y :: triL T) := by
  have hn := tr_none T
  have hnm := lv_name hG hV s
  have hsp := lv_split hG s hs
  have hh := lv_hidden s
  refine does_of Tryz.func109 rfl rfl Tryz.ntmps109 rfl eNUM (fun c => ?_)
  (refine go ?_; intros)
  (show wpO _ _ ⟨_, .call _, _, _, _, _⟩ _ _ _ _ _ _; refine o_callA (hn) (fun _ _ => ?_); try simp only [List.cons_append, List.nil_append])
  (refine go ?_; intros)
  (show wpO _ _ ⟨_, .call _, _, _, _, _⟩ _ _ _ _ _ _; refine o_callA (hnm) (fun r _ => ?_); try simp only [List.cons_append, List.nil_append])
  cases r with
  | false =>
    (refine go ?_; intros)
    exact q_ret1 rfl rfl G rfl ⟨hG, Gr.refl _ _⟩ eNT
  | true =>
    (refine go ?_; intros)
    refine o_makeMapR (fun m => ?_)
    (refine go ?_; intros)
    refine wpC_drawnA [triI T, nodI T, mapR T.b [] 0] 10 ?_
    ((first | refine dt 0 ?_ | refine dts 0 ?_); (first | refine dt 1 ?_ | refine dts 1 ?_); (first | refine dt 2 ?_ | refine dts 2 ?_); (first | refine dt 3 ?_ | refine dts 3 ?_); (first | refine dt 4 ?_ | refine dts 4 ?_); (first | refine dt 5 ?_ | refine dts 5 ?_); (first | refine dt 7 ?_ | refine dts 7 ?_))
    refine dcall 6 hsp (fun y hy => ?_)
    obtain ⟨G1, v, k⟩ := y
    obtain ⟨x1, x2, x3, x4, x5⟩ := hy
    try dsimp only at x1 x2 x3 x4 x5 ⊢
    have v1 := x3.one
    simp only [List.cons_append, List.nil_append]
    refine dcall 8 hh (fun hb _ => ?_)
    simp only [List.cons_append, List.nil_append]
    ((first | refine df 9 ?_ | refine dfs 9 ?_))
    have hw := be_walk x1 T m x3 x4 (!hb)
    (refine dlcall (hw) (fun _ _ => ?_); try simp only [List.cons_append, List.nil_append])
    try simp only [List.cons_append, List.nil_append]
    (refine go ?_; intros)
    (show wpO _ _ ⟨_, .call _, _, _, _, _⟩ _ _ _ _ _ _; refine o_callA (mk_keys m) (fun b _ => ?_); try simp only [List.cons_append, List.nil_append])
    (refine go ?_; intros)
    (show wpO _ _ ⟨_, .call _, _, _, _, _⟩ _ _ _ _ _ _; refine o_callA (so_sorted b m) (fun _ _ => ?_); try simp only [List.cons_append, List.nil_append])
    (refine go ?_; intros)
    refine wpC_loop (σ := Unit) (fun _ => True) (fun _ => [(6, .slice none 0 0), (31, nat64 0), (32, nat64 0)]) (fun _ => rgH G1 :: triL T) (fun _ => 0) () trivial sUB eNT (fun _ _ => ?_)
    (refine go ?_; intros)
    exact q_ret1 rfl rfl G1 rfl ⟨x1, x2⟩ eNT
abbrev retI (r m : Nat) : HProp := pts r (.cells [.map (some m)].toArray 101 (0, 0))
theorem rt_new : FnDoes Tryz.prog 15 [] [] (fun _ : Nat × Nat => True) (fun y => pt0 y.1) (fun y => [retI y.1 y.2, mapR y.2 [] 0]) := by
  refine does_of Tryz.func15 rfl rfl Tryz.ntmps15 rfl eNUM (fun c => ?_)
  (refine go ?_; intros)
  refine o_makeMapR (fun m => ?_)
  (refine go ?_; intro b)
  exact q_ret1 rfl rfl (b, m) rfl trivial eNT
theorem rt_none (r m : Nat) : FnDoes Tryz.prog 107 [pt0 r] [retI r m] (fun _ : Unit => True) (fun _ => .bool false) (fun _ => [retI r m]) := by
  refine does_of Tryz.func107 rfl rfl Tryz.ntmps107 rfl eNUM (fun c => ?_)
  (refine go ?_; intros)
  exact q_ret1 rfl rfl () rfl trivial eNT
set_option maxHeartbeats 1000000 in
theorem rt_keep {G : Rg} (hG : okG G) (hV : vG G) (r m : Nat) (t x : ByteArray) (q : Int) (b : Bool) : FnDoes Tryz.prog 79 [pt0 r, .agg (msgC t x q b).toArray] [rgH G, retI r m, mapR m [] 0] (fun y : Bool × Nat => True) (fun y => .tuple #[.bool y.1, nat64 y.2]) (fun _ => [rgH G]) := by
  have hn := rt_none r m
  have hnm := lv_name hG hV t
  have hk := key_str t
  refine does_of Tryz.func79 rfl rfl Tryz.ntmps79 rfl eNUM (fun c => ?_)
  (refine go ?_; intro c2)
  (show wpO _ _ ⟨_, .call _, _, _, _, _⟩ _ _ _ _ _ _; refine o_callA (hn) (fun _ _ => ?_); try simp only [List.cons_append, List.nil_append])
  (refine go ?_; intros)
  (show wpO _ _ ⟨_, .call _, _, _, _, _⟩ _ _ _ _ _ _; refine o_callA (hnm) (fun rr _ => ?_); try simp only [List.cons_append, List.nil_append])
  cases rr with
  | false =>
    (refine go ?_; intros)
    exact q_ret2 rfl rfl rfl (false, 13) rfl trivial eNT
  | true =>
    (refine go ?_; intros)
    refine wpC_drawnA [retI r m, mapR m [] 0, pts c2 (.cells (msgC t x q b).toArray 24 (0, 0))] 12 ?_
    ((first | refine dt 0 ?_ | refine dts 0 ?_); (first | refine dt 1 ?_ | refine dts 1 ?_); (first | refine dt 2 ?_ | refine dts 2 ?_); (first | refine dt 3 ?_ | refine dts 3 ?_); (first | refine dt 4 ?_ | refine dts 4 ?_); (first | refine dt 5 ?_ | refine dts 5 ?_))
    refine dtB 6 rfl (ev_lookup0 (ok := true) (b := m) hk rfl rfl rfl rfl rfl pK) ?_
    ((first | refine dt 7 ?_ | refine dts 7 ?_); (first | refine dt 8 ?_ | refine dts 8 ?_); (first | refine dt 9 ?_ | refine dts 9 ?_))
    (refine wpD_eff 10 rfl rfl (by kernel_rfl) rfl rfl ?_; show OVL _ ⟨_, .alloc _, _, _, _, _⟩ _ _ _ _ _ _)
    refine x_alloc (by rfl) (by rfl) (by rfl) (fun c6 => ⟨eNT, ?_⟩)
    (refine wpD_effU 11 rfl rfl (by decide +kernel) rfl ?_; show OUL _ ⟨_, .store _ _ _, _, _, _, _⟩ _ _ _ _ _)
    refine x_storeP (vs := msgC mt0 mt0 0 false) (by rfl) (by rfl) (by rfl) (by rfl) (by rfl) (by rfl) pK (by simp) rfl ⟨eNT, ?_⟩
    (refine dl ?_)
    by_cases hx : x = (⟨#[]⟩ : ByteArray)
    · (refine go ?_; intros)
      refine wpC_drawnA [retI r m, pts c2 (.cells (msgC t x q b).toArray 24 (0, 0))] 6 ?_
      ((first | refine dt 0 ?_ | refine dts 0 ?_); (first | refine dt 1 ?_ | refine dts 1 ?_); (first | refine dt 2 ?_ | refine dts 2 ?_); (first | refine dt 3 ?_ | refine dts 3 ?_); (first | refine df 4 ?_ | refine dfs 4 ?_); (first | refine df 5 ?_ | refine dfs 5 ?_))
      refine wpD_lastN rfl rfl (by decide +kernel) (by decide +kernel) rfl ?_
      refine x_delete0 (b := m) hk (by rfl) (by rfl) (by rfl) pK ?_
      (refine go ?_; intros)
      exact q_ret2 rfl rfl rfl (false, 0) rfl trivial eNT
    · (refine go ?_; intros)
      refine o_evB (ev_lenR (b := m) rfl rfl pK) ?_
      (refine go ?_; intros)
      refine wpC_drawnA [retI r m, pts c2 (.cells (msgC t x q true).toArray 24 (0, 0))] 7 ?_
      ((first | refine dt 0 ?_ | refine dts 0 ?_); (first | refine dt 1 ?_ | refine dts 1 ?_); (first | refine dt 2 ?_ | refine dts 2 ?_); (first | refine dt 3 ?_ | refine dts 3 ?_); (first | refine dt 4 ?_ | refine dts 4 ?_); (first | refine dt 5 ?_ | refine dts 5 ?_); (first | refine df 6 ?_ | refine dfs 6 ?_))
      (refine wpD_lastU rfl rfl (by kernel_rfl) (by kernel_rfl) rfl ?_; show OUL _ ⟨_, .mapUpdate _ _ _ _, _, _, _, _⟩ _ _ _ _ _)
      refine x_mapUpdate0 (b := m) hk (by rfl) (by rfl) (by rfl) (by rfl) pK ?_
      (refine go ?_; intros)
      exact q_ret2 rfl rfl rfl (false, 0) rfl trivial eNT
end Go.Proofs.YtnaabpfpldelmaaGreatDoor
set_option linter.unusedSimpArgs false
set_option linter.unusedVariables false
set_option maxRecDepth 20000
namespace Go.Proofs.YtnaabpfpldelmaaGreatDoor
open Go Go.Sx
def mayG (G : Rg) : Prop := G.1 0 = none ∧ ∃ (l : List Bool) (e : TypeId) (f : Nat × Nat), l[0]? = some true ∧ G.2 0 = some (.cells (l.map Value.bool).toArray e f)
theorem mayG.up {G G' : Rg} (h : mayG G) (g : grG G G') : mayG G' := by
  obtain ⟨h1, l, e, f, h2, h3⟩ := h
  obtain ⟨k1, k2⟩ := g.keep _ _ h3 h1
  exact ⟨k1, l, e, f, h2, k2⟩
theorem mayG.at0 {G : Rg} (h : mayG G) : G.2.cell? ⟨0, 0 + 0 * 1, none⟩ = some (.bool true) := by
  obtain ⟨_, l, e, f, h2, h3⟩ := h
  have : (l.map Value.bool)[0]? = some (.bool true) := by rw [List.getElem?_map, h2]; rfl
  simp [PHeap.cell?, h3, this]
def kindOk (k : Nat) : Prop := k = 1 ∨ k = 2 ∨ k = 3 ∨ k = 12 ∨ k = 13 ∨ k = 14
abbrev hedC (k f n : Nat) : List Value := [nat64 k, nat64 f, nat64 n]
def LenAt (l : List UInt8) (n k : Nat) : Prop := k ≤ l.length ∧ ((k = 1 ∧ at8 l 0 = n ∧ n < 128) ∨ (k = 2 ∧ at8 l 0 = n % 128 + 128 ∧ at8 l 1 = n / 128 ∧ 128 ≤ n ∧ n < 16384))
attribute [local irreducible] MidQ wpE wpO wpC qE wpQ wpQO wpH wpHO wpD wpDO wpZ Ev own emp exI sl ch PostS LoopQ Rd rowsAt
theorem hd_plain (k : Nat) (hk : kindOk k) : FnDoes Tryz.prog 202 [nat64 k, nat64 0] [] (fun _ : Unit => True) (fun _ => .bool true) (fun _ => []) := by
  refine does_of Tryz.func202 rfl rfl Tryz.ntmps202 rfl eNUM (fun c => ?_)
  rcases hk with rfl | rfl | rfl | rfl | rfl | rfl
  all_goals
    (refine go ?_; intros)
    exact q_ret1 rfl rfl () rfl trivial eNT
theorem hd_message {G : Rg} (h : mayG G) : FnDoes Tryz.prog 201 [nat64 0] [rgH G] (fun _ : Unit => True) (fun _ => .bool true) (fun _ => [rgH G]) := by
  have h0 := h.at0
  refine does_of Tryz.func201 rfl rfl Tryz.ntmps201 rfl eNUM (fun c => ?_)
  (refine go ?_; intros)
  exact q_ret1 rfl rfl () rfl trivial eNT
theorem hd_right {G : Rg} (h : mayG G) (k : Nat) (hk : kindOk k) : FnDoes Tryz.prog 142 [nat64 k, nat64 0] [rgH G] (fun _ : Unit => True) (fun _ => nat64 0) (fun _ => [rgH G]) := by
  have hm := hd_message h
  have hp := hd_plain k hk
  refine does_of Tryz.func142 rfl rfl Tryz.ntmps142 rfl eNUM (fun c => ?_)
  rcases hk with rfl | rfl | rfl | rfl | rfl | rfl
  focus
    (refine go ?_; intros)
    (show wpO _ _ ⟨_, .call _, _, _, _, _⟩ _ _ _ _ _ _; refine o_callA (hp) (fun _ _ => ?_); try simp only [List.cons_append, List.nil_append])
    (refine go ?_; intros)
    exact q_ret1 rfl rfl () rfl trivial eNT
  focus
    (refine go ?_; intros)
    (show wpO _ _ ⟨_, .call _, _, _, _, _⟩ _ _ _ _ _ _; refine o_callA (hp) (fun _ _ => ?_); try simp only [List.cons_append, List.nil_append])
    (refine go ?_; intros)
    exact q_ret1 rfl rfl () rfl trivial eNT
  focus
    (refine go ?_; intros)
    (show wpO _ _ ⟨_, .call _, _, _, _, _⟩ _ _ _ _ _ _; refine o_callA (hm) (fun _ _ => ?_); try simp only [List.cons_append, List.nil_append])
    (refine go ?_; intros)
    exact q_ret1 rfl rfl () rfl trivial eNT
  all_goals
    (refine go ?_; intros)
    (show wpO _ _ ⟨_, .call _, _, _, _, _⟩ _ _ _ _ _ _; refine o_callA (hp) (fun _ _ => ?_); try simp only [List.cons_append, List.nil_append])
    (refine go ?_; intros)
    exact q_ret1 rfl rfl () rfl trivial eNT
set_option maxHeartbeats 1000000 in
theorem hd_length {X : HProp} {v : Value} {l : List UInt8} (hX : Bs X v l) (hl : l.length ≤ 1000000) (m k : Nat) (h : LenAt l m k) : FnDoes Tryz.prog 143 [v] [X] (fun _ : Unit => True) (fun _ => .tuple #[nat64 m, nat64 k, nat64 0]) (fun _ => [X]) := by
  obtain ⟨hkl, h⟩ := h
  refine does_of Tryz.func143 rfl rfl Tryz.ntmps143 rfl eNUM (fun c => ?_)
  refine wpC_fact (hX.isSlice .head) (fun hs => ?_)
  obtain ⟨a, cap, rfl, ha⟩ := hs
  obtain ⟨bb, off, rfl, hcap⟩ := ha (by omega)
  have c0 := at8_get (l := l) (i := 0) (by omega)
  (refine go ?_; intros)
  refine wpC_loop (σ := Nat × Nat) (fun s => (s.1 = 0 ∧ s.2 = 0) ∨ (s.1 = 1 ∧ s.2 = m % 128 ∧ k = 2)) (fun s => [(5, nat64 s.2), (8, .slice (some ⟨bb, off, none⟩) l.length cap), (9, nat64 l.length), (10, nat64 s.1)]) (fun _ => [X]) (fun s => 2 - s.1) (0, 0) (.inl ⟨rfl, rfl⟩) sUB eNT (fun s hs => ?_)
  obtain ⟨i, nn⟩ := s
  rcases hs with ⟨rfl, rfl⟩ | ⟨rfl, rfl, hk2⟩
  · have b8 := at8_lt l 0
    try dsimp only
    (refine go ?_; intros)
    refine o_evB (ev_load_rd rfl rfl rfl hX pK rfl (by rw [Nat.zero_mul]; exact c0)) ?_
    (refine go ?_; intros)
    refine o_evB (ev_shl (m := 0) (r := ((at8 l 0 : Nat) : Int) % 128) rfl rfl (by decide) (by rw [Int.pow_zero, Int.mul_one]; exact wrap64_of (by omega) (by omega))) ?_
    rcases h with ⟨rfl, h1, h2⟩ | ⟨rfl, h1, h2, h3, h4⟩
    · have e1 : ((at8 l 0 : Nat) : Int) % 128 = (m : Int) := by omega
      rw [e1]
      (refine go ?_; intros)
      exact q_ret3 rfl rfl rfl rfl () (by simp) trivial eNT
    · have e1 : ((at8 l 0 : Nat) : Int) % 128 = ((m % 128 : Nat) : Int) := by omega
      rw [e1]
      (refine go ?_; intros)
      rw [show ((0 : Nat) : Int) + ((m % 128 : Nat) : Int) = ((m % 128 : Nat) : Int) by omega]
      exact q_round (1, m % 128) (.inr ⟨rfl, rfl, rfl⟩) (by dsimp only; omega) sUB eNT
  · subst hk2
    have h' : at8 l 0 = m % 128 + 128 ∧ at8 l 1 = m / 128 ∧ 128 ≤ m ∧ m < 16384 := by omega
    obtain ⟨h1, h2, h3, h4⟩ := h'
    have c1 := at8_get (l := l) (i := 1) (by omega)
    have b8 := at8_lt l 1
    try dsimp only
    (refine go ?_; intros)
    refine o_evB (ev_load_rd rfl rfl rfl hX pK rfl (by rw [Nat.one_mul]; exact c1)) ?_
    (refine go ?_; intros)
    refine o_evB (ev_shl (m := 7) (r := ((m / 128 * 128 : Nat) : Int)) rfl rfl (by decide) (by rw [h2, show ((m / 128 : Nat) : Int) % 128 * 2 ^ 7 = ((m / 128 * 128 : Nat) : Int) by omega]; exact wrap64_of (by omega) (by omega))) ?_
    (refine go ?_; intros)
    exact q_ret3 rfl rfl rfl rfl () (by rw [show ((m % 128 : Nat) : Int) + ((m / 128 * 128 : Nat) : Int) = (m : Int) by omega]; rfl) trivial eNT
end Go.Proofs.YtnaabpfpldelmaaGreatDoor
set_option linter.unusedSimpArgs false
set_option linter.unusedVariables false
set_option maxRecDepth 20000
namespace Go.Proofs.YtnaabpfpldelmaaGreatDoor
open Go Go.Sx
attribute [local irreducible] MidQ wpE wpO wpC qE wpQ wpQO wpH wpHO wpD wpDO wpZ Ev own emp exI sl ch PostS LoopQ Rd rowsAt
set_option maxHeartbeats 1000000 in
theorem hd_get {G : Rg} (hM : mayG G) {X : HProp} {v : Value} {l : List UInt8} (hX : Bs X v l) (hl : l.length ≤ 1000000) (at_ kd m k : Nat) (hk : kindOk kd) (hat : at_ < l.length) (hb : at8 l at_ = kd * 16) (hlen : LenAt (l.drop (at_ + 1)) m k) (hm : m ≤ 4096) (hk4 : k ≤ 1000000) :
    FnDoes Tryz.prog 102 [v, nat64 at_] [X, rgH G] (fun _ : Unit => True) (fun _ => .tuple #[.agg (hedC kd 0 m).toArray, nat64 (at_ + 1 + k), nat64 0]) (fun _ => [X, rgH G]) := by
  have hr := hd_right hM kd hk
  have hkd : kd ≤ 14 := by unfold kindOk at hk; omega
  have c0 := at8_get (l := l) (i := at_) hat
  rw [hb] at c0
  refine does_of Tryz.func102 rfl rfl Tryz.ntmps102 rfl eNUM (fun c => ?_)
  refine wpC_fact (hX.isSlice .head) (fun hs => ?_)
  obtain ⟨a, cap, rfl, ha⟩ := hs
  obtain ⟨bb, off, rfl, hcap⟩ := ha (by omega)
  have hX' := Bs.from hX (show at_ + 1 ≤ l.length by omega)
  have hdl : (l.drop (at_ + 1)).length = l.length - (at_ + 1) := List.length_drop
  have hln := hd_length hX' (by omega) m k hlen
  (refine go ?_; intro c4)
  refine wpC_drawnA [X] 14 ?_
  ((first | refine dt 0 ?_ | refine dts 0 ?_); (first | refine dt 1 ?_ | refine dts 1 ?_); (first | refine dt 2 ?_ | refine dts 2 ?_))
  refine dtB 3 rfl (ev_load_rd rfl rfl rfl hX pK rfl (by rw [Nat.mul_one]; exact c0)) ?_
  ((first | refine dt 4 ?_ | refine dts 4 ?_); (first | refine dt 5 ?_ | refine dts 5 ?_); (first | refine dt 6 ?_ | refine dts 6 ?_); (first | refine dt 7 ?_ | refine dts 7 ?_); (first | refine dt 8 ?_ | refine dts 8 ?_))
  refine dtB 9 rfl (ev_load_rd rfl rfl rfl hX pK rfl (by rw [Nat.mul_one]; exact c0)) ?_
  ((first | refine dt 10 ?_ | refine dts 10 ?_); (first | refine dt 11 ?_ | refine dts 11 ?_); (first | refine dt 12 ?_ | refine dts 12 ?_))
  rw [show kd * 16 / 16 = kd by omega, show ((kd * 16 : Nat) : Int) % 16 = 0 by omega]
  (refine wpD_eff 13 rfl rfl (by kernel_rfl) rfl rfl ?_; show OVL _ ⟨_, .alloc _, _, _, _, _⟩ _ _ _ _ _ _)
  refine x_alloc (by rfl) (by rfl) (by rfl) (fun c7 => ⟨eNT, ?_⟩)
  (refine wpD_lastU rfl rfl (by kernel_rfl) (by kernel_rfl) rfl ?_; show OUL _ ⟨_, .store _ _ _, _, _, _, _⟩ _ _ _ _ _)
  refine x_storeP (l' := hedC kd 0 0) (vs := hedC kd 0 0) (by rfl) (by rfl) (by rfl) (by rfl) (by rfl) (by rfl) pK (by simp) rfl ?_
  (refine go ?_; intros)
  (show wpO _ _ ⟨_, .call _, _, _, _, _⟩ _ _ _ _ _ _; refine o_callA (hr) (fun _ _ => ?_); try simp only [List.cons_append, List.nil_append])
  (refine go ?_; intros)
  refine o_evB (ev_slcLo (l := at_ + 1) 1 rfl rfl rfl rfl rfl (by omega) (by omega)) ?_
  (refine go ?_; intros)
  (show wpO _ _ ⟨_, .call _, _, _, _, _⟩ _ _ _ _ _ _; refine o_callA (hln) (fun _ _ => ?_); try simp only [List.cons_append, List.nil_append])
  (refine go ?_; intros)
  exact q_retATT (l1 := hedC kd 0 m) rfl rfl rfl rfl rfl rfl rfl rfl pK () rfl trivial eNT
theorem hd_end {G : Rg} {X : HProp} {v : Value} {l : List UInt8} (hX : Bs X v l) (hl : l.length ≤ 1000000) : FnDoes Tryz.prog 102 [v, nat64 l.length] [X, rgH G] (fun _ : Unit => True) (fun _ => .tuple #[.agg (hedC 0 0 0).toArray, nat64 0, nat64 2]) (fun _ => [X, rgH G]) := by
  refine does_of Tryz.func102 rfl rfl Tryz.ntmps102 rfl eNUM (fun c => ?_)
  refine wpC_fact (hX.isSlice .head) (fun hs => ?_)
  obtain ⟨a, cap, rfl, ha⟩ := hs
  (refine go ?_; intro c4)
  exact q_retATT (l1 := hedC 0 0 0) rfl rfl rfl rfl rfl rfl rfl rfl pK () rfl trivial eNT
set_option maxHeartbeats 1000000 in
theorem hd_put {G : Rg} (hM : mayG G) (kd m : Nat) (hk : kd = 2 ∨ kd = 13) (hm : m < 128) : FnDoes Tryz.prog 323 [.agg (hedC kd 0 m).toArray] [rgH G] (fun _ : Value => True) (fun v => .tuple #[v, nat64 0]) (fun v => [rgH G, bytI v [UInt8.ofNat (kd * 16), UInt8.ofNat m]]) := by
  have hr := hd_right hM kd (by unfold kindOk; omega)
  have b1 : ((UInt8.ofNat m).toNat : Int) = m := by rw [UInt8.toNat_ofNat']; omega
  have hb : Tryz.prog.types[5].bytes ≤ 1000 := by decide +kernel
  refine does_of Tryz.func323 rfl rfl Tryz.ntmps323 rfl eNUM (fun c => ?_)
  (refine go ?_; intro c1)
  (show wpO _ _ ⟨_, .call _, _, _, _, _⟩ _ _ _ _ _ _; refine o_callA (hr) (fun _ _ => ?_); try simp only [List.cons_append, List.nil_append])
  rcases hk with rfl | rfl
  focus
    (refine go ?_; intros)
    rw [show ((2 * 16 ||| 0 : Nat)) = 32 from rfl]
    (refine go ?_; intro bb)
    refine wpC_loop (σ := Unit) (fun _ => True) (fun _ => [(6, nat64 m), (5, .slice (some ⟨bb, 0, none⟩) 1 1)]) (fun _ => [bytI (.slice (some ⟨bb, 0, none⟩) 1 1) [32], rgH G]) (fun _ => 0) () trivial sUB (Ent.slClose (xs := [.int .u8 ((32 : Nat) : Int)]) (junk := []) pK rfl rfl (Nat.le_refl _) (by decide) rfl eNT) (fun _ _ => ?_)
    have hm1 : ((UInt8.ofNat m).toNat : Int) = m := b1
    (refine go ?_; intro b2)
    refine o_append (m := 1) (news := u8s [UInt8.ofNat m]) (sz := 1) rfl rfl rfl rfl rfl rfl rfl rfl pK (src_pts rfl pK (by rw [← b1]; rfl) rfl rfl) ?_ rfl (fun v' => ?_)
    · dsimp only [List.length_cons, List.length_nil]
      have := Nat.mul_le_mul (Nat.le_refl 2) hb
      omega
    (refine go ?_; intros)
    exact q_ret2 rfl rfl rfl v' rfl trivial eNT
  focus
    (refine go ?_; intros)
    rw [show ((13 * 16 ||| 0 : Nat)) = 208 from rfl]
    (refine go ?_; intro bb)
    refine wpC_loop (σ := Unit) (fun _ => True) (fun _ => [(6, nat64 m), (5, .slice (some ⟨bb, 0, none⟩) 1 1)]) (fun _ => [bytI (.slice (some ⟨bb, 0, none⟩) 1 1) [208], rgH G]) (fun _ => 0) () trivial sUB (Ent.slClose (xs := [.int .u8 ((208 : Nat) : Int)]) (junk := []) pK rfl rfl (Nat.le_refl _) (by decide) rfl eNT) (fun _ _ => ?_)
    have hm1 : ((UInt8.ofNat m).toNat : Int) = m := b1
    (refine go ?_; intro b2)
    refine o_append (m := 1) (news := u8s [UInt8.ofNat m]) (sz := 1) rfl rfl rfl rfl rfl rfl rfl rfl pK (src_pts rfl pK (by rw [← b1]; rfl) rfl rfl) ?_ rfl (fun v' => ?_)
    · dsimp only [List.length_cons, List.length_nil]
      have := Nat.mul_le_mul (Nat.le_refl 2) hb
      omega
    (refine go ?_; intros)
    exact q_ret2 rfl rfl rfl v' rfl trivial eNT
end Go.Proofs.YtnaabpfpldelmaaGreatDoor
set_option linter.unusedSimpArgs false
set_option linter.unusedVariables false
namespace Go.Sx
open Go Go.Conc
variable {P : Program} {c : Cx} {n : Nat} {L : Env} {M : List HProp} {dst : Option Nat} {ty : TypeId} {pos : String} {after : Array Edge} {g : Option (Nat × Bool)}
theorem ev_slcZ {t e : TypeId} {x hi mx : Operand} {cap : Nat} {k1 k2 : IntKind} {ei : TypeInfo} {a : Option Addr} (hx : opnd L x = some (.slice a 0 cap)) (hh : opnd L hi = some (.int k1 (0 : Nat))) (hm : opnd L mx = some (.int k2 (0 : Nat))) (hu : P.underlying t = some (.slice e)) (he : P.info? e = some ei) :
    Ev P ⟨dst, .slice t x none (some hi) (some mx), ty, pos, after, g⟩ c n L M (.slice a 0 0) := fun T w st => by
  have e1 : ∀ cd, (Instr.sliceBound (.int k1 (0 : Nat)) 0 cd).run P w = .ok 0 w := fun cd => run_bound rfl (Nat.le_refl _)
  have e2 : ∀ cd, (Instr.sliceBound (.int k2 (0 : Nat)) cap cd).run P w = .ok 0 w := fun cd => run_bound rfl (Nat.zero_le _)
  simp only [execOp, opnd_eval st.slots hx, opnd_eval st.slots hh, opnd_eval st.slots hm, Instr.sliceAt, Instr.slice, Instr.sliceBounds, Option.map_some, Option.map_none, Sem.run_bind, run_underlying hu, Sem.run_pure, Result.andThen_ok, e1, e2, sizeOf, typeInfo, run_program, he, if_true, Nat.sub_self]
theorem x_appendZ {K : Env → List HProp → Prop} {d : Nat} {t tx e : TypeId} {s' x' : Operand} {i : TypeInfo} {z x : Value} {m sz : Nat} {a : Option Addr} {news : List Value} (hs : opnd L s' = some (.slice a 0 0)) (hx : opnd L x' = some x) (ht : P.underlying t = some (.slice e)) (hi : P.info? e = some i) (hz : i.zero = some z)
    (hsz : i.size = sz) (hzs : Nat.beq z.cells.size sz = true) (hby : Nat.blt 0 i.bytes = true) (src : ∀ w, HSt c M w → Src P sz tx x m news w) (hm : 0 < m)
    (hb : m * i.bytes ≤ 140737488355328) (h : ∀ v', K ((d, v') :: L) (sl e sz v' m news :: M)) :
    OVL P ⟨some d, .call { callee := .builtin .append, args := #[s', x'], argTypes := #[t, tx] }, ty, pos, after, g⟩ c n L M d K := fun T w s => by
  subst hsz
  have hS := src w s.heap
  have hby' : 0 < i.bytes := by simpa [Nat.blt_eq] using hby
  have hzs' : z.cells.size = i.size := Nat.eq_of_beq_eq_true hzs
  have hlen : m ≤ 140737488355328 := Nat.le_trans (Nat.le_mul_of_pos_right _ hby') hb
  have hold : (Builtin.firstCells i.size 0 (.slice a 0 0)).run P w.drew = .ok ([] : List Value).toArray w.drew := by
    cases a with
    | none => exact run_firstCells_none w.drew i.size 0 0 0
    | some a => exact run_firstCells_some w.drew i.size 0 a 0 0 [] (by simp) (fun j v hj => by cases hj)
  have hr := run_append_grow_src (P := P) w t tx ty e i z ht hi hz a 0 0 [] hold x m news hS (by omega) (by omega) (growslice_fits (by omega) (by simpa using hb))
  simp only [Nat.zero_add, List.nil_append] at hr
  have hz : (news ++ (Builtin.zeroCells z.cells (grownCap w m 0 e - m)).toList).length = grownCap w m 0 e * i.size := by
    rw [List.length_append, hS.newsLen, Array.length_toList, size_zeroCells, hzs', ← Nat.add_mul]; congr 1; have := grownCap_ge w m 0 e; omega
  have hst := HSt.new (w' := w.drew.alloc (.cells (news.toArray ++ Builtin.zeroCells z.cells (grownCap w m 0 e - m)) e)) (HSt.same (w' := w.drew) s.heap rfl rfl rfl rfl) (.cells (news ++ (Builtin.zeroCells z.cells (grownCap w m 0 e - m)).toList).toArray e (0, 0)) (by
    show w.drew.heap.push _ = _
    congr 2
    apply Array.ext'; simp) rfl rfl rfl
  refine ⟨_, _, _, _, ?_, HSt.ent (sl_close hS.newsLen (by simpa using hS.one) (grownCap_ge _ _ _ _) (grownCap_le_maxLen _ _ _ _ (by simp only [maxLen]; omega)) hz) hst, rfl, h _⟩
  simp [execOp, resolve, invoke, builtin, opnd_eval s.slots hs, opnd_eval s.slots hx, hr]
variable {ops : Array Oper} {listed : Array Bool} {r : Nat} {Q : Exit → Act → World → Prop}
theorem zcall (i : Nat) {σ : Type} {d : Nat} {f : FuncId} {xs : List Operand} {ats : Array TypeId} {ty : TypeId} {pos : String} {after : Array Edge} {guard : Option (Nat × Bool)}
    {args : List Value} {A R : List HProp} {φ : σ → Prop} {val : σ → Value} {B : σ → List HProp}
    (S' : FnDoes P f args A φ val B) (h : ∀ y, φ y → wpZ P ops r (listed.setIfInBounds i true) Q c n ((d, val y) :: L) (B y ++ R)) (hi : ops[i]? = some ⟨some d, .call { callee := .value (.func f), args := xs.toArray, argTypes := ats }, ty, pos, after, guard⟩ := by rfl)
    (hg : wantB ops ⟨some d, .call { callee := .value (.func f), args := xs.toArray, argTypes := ats }, ty, pos, after, guard⟩ L = true := by rfl) (hr : Region.ready .any ops listed = [i] := by decide +kernel) (hx : opnds L xs = some args := by rfl) (hp : Ent M (A ++ R) := by exact Picks.ent pKS)
    (hd : Nat.blt d n = true := by rfl) : wpZ P ops (r + 1) listed Q c n L M := fun T w s => by
  refine ⟨fun h0 => (by rw [hr] at h0; cases h0), fun j hj => ?_⟩
  rw [hr] at hj
  obtain rfl : j = i := by simpa using hj
  have hrun : (execOp (Act.eval ⟨T, c.ds⟩) ⟨some d, .call { callee := .value (.func f), args := xs.toArray, argTypes := ats }, ty, pos, after, guard⟩).run P w = .ok (.enter f args.toArray) w := by
    rw [execOp_call]
    have := opnds_eval (ds := c.ds) s.slots hx
    simp only [List.map_toArray, this, Array.empty_append, Array.append_empty]
    exact S'.may _ _
  unfold wpOp
  simp only [hi]
  rw [if_pos (wanted_of hg s.slots)]
  refine .inl ?_
  unfold Oper.wp
  rw [hrun]
  intro cs
  obtain ⟨f', hh, m, l, dd⟩ := s.heap
  obtain ⟨ha, hr', a, r, dj, l1, l2⟩ := sepL_append (hp _ m)
  obtain ⟨e, w2, fr, ⟨y, hy, he, hst⟩, hcm, hfr, hl⟩ := S'.does w ha a (PHeap.le_trans l1 l) cs
  refine ⟨e, w2, fr, ?_, hcm, hfr, hl⟩
  subst he
  have hst' := HSt.call f' l dd r dj l1 l2 hst
  have := h y hy (T.setIfInBounds d (val y)) w2 ⟨by simp [s.size], s.slots.put s.size hd _, hst'⟩
  simpa [Act.put] using this
end Go.Sx
