/-
  Maps that hold nothing yet, whatever their keys. No program in sight.
  Births' names; hosts and births where nothing is known yet.
  A first birth is kept; a first host tells something.
  Who was asked last: the first asking.
-/
import Derived.Test.YtnaabpfpldelmaaGreatDoorM23
import Derived.Test.YtnaabpfpldelmaaGreatDoorM24
set_option linter.unusedSimpArgs false
set_option linter.unusedVariables false
namespace Go.Sx
open Go Go.Conc
variable {P : Program} {ops : Array Oper} {Q : Exit → Act → World → Prop} {c : Cx} {n : Nat} {L : Env} {M : List HProp} {rest : List Oper} {o : Oper}
variable {ty : TypeId} {pos : String} {after : Array Edge} {g : Option (Nat × Bool)} {dst : Option Nat}
variable {t kt et : TypeId} {x y z : Operand} {b ck : Nat} {R : List HProp} {k v zv : Value} {i : TypeInfo}
structure KeyOk (P : Program) (kt : TypeId) (k : Value) : Prop where
  chk : ∀ e w, (Instr.checkKey e 10000 kt k).run P w = .ok () w
  fnd : ∀ w, (Instr.findKey kt k []).run P w = .ok none w
theorem ev_lookup0 {ok : Bool} (hk : KeyOk P kt k) (hx : opnd L x = some (.map (some b))) (hy : opnd L y = some k) (hu : P.underlying t = some (.map kt et)) (hi : P.info? et = some i) (hz : i.zero = some zv) (hp : Pick M (mapR b [] ck) R) :
    Ev P ⟨dst, .lookup t x y ok, ty, pos, after, g⟩ c n L M (if ok then .tuple #[zv, .bool false] else zv) := fun T w s => by
  have hg : (getObj b).run P w = .ok (.map #[] ck) w := by have := s.heap.pts hp; simp [getObj, Sem.run, this]
  have hzv : (zeroValue et).run P w = .ok zv w := by simp [zeroValue, typeInfo, run_program, hi, hz]
  have h1 := hk.chk true w
  have h2 := hk.fnd w
  cases ok <;> simp [execOp, opnd_eval s.slots hx, opnd_eval s.slots hy, Instr.lookup, run_underlying hu, hg, h1, h2, hzv]
theorem x_mapUpdate0 {K : Env → List HProp → Prop} (hk : KeyOk P kt k) (hx : opnd L x = some (.map (some b))) (hy : opnd L y = some k) (hz : opnd L z = some v) (hu : P.underlying t = some (.map kt et)) (hp : Pick M (mapR b [] ck) R)
    (h : K L (mapR b [⟨k, v, ck⟩] (ck + 1) :: R)) : OUL P ⟨none, .mapUpdate t x y z, ty, pos, after, g⟩ c n L M K := fun T w s => by
  have hb := s.heap.pts hp
  have hg : (getObj b).run P w = .ok (.map #[] ck) w := by simp [getObj, Sem.run, hb]
  have h1 := hk.chk false w
  have h2 := hk.fnd w
  refine ⟨_, _, ?_, hst_setMap (l := []) (l' := [⟨k, v, ck⟩]) (ck + 1) (s.heap.ent (Ent.cons hp (Ent.refl _))), h⟩
  simp [execOp, opnd_eval s.slots hx, opnd_eval s.slots hy, opnd_eval s.slots hz, Instr.mapUpdate, run_underlying hu, hg, h1, h2, run_setMap hb]
theorem o_mapUpdate0 (hk : KeyOk P kt k) (hx : opnd L x = some (.map (some b))) (hy : opnd L y = some k) (hz : opnd L z = some v) (hu : P.underlying t = some (.map kt et)) (hp : Pick M (mapR b [] ck) R)
    (h : wpE P ops rest Q c n L (mapR b [⟨k, v, ck⟩] (ck + 1) :: R)) : wpO P ops ⟨none, .mapUpdate t x y z, ty, pos, after, g⟩ rest Q c n L M := o_unit rfl fun T w s => by
  obtain ⟨w', M', h1, h2, h3⟩ := x_mapUpdate0 (K := fun L' M' => L' = L ∧ M' = mapR b [⟨k, v, ck⟩] (ck + 1) :: R) (ty := ty) (pos := pos) (after := after) (g := g) hk hx hy hz hu hp ⟨rfl, rfl⟩ T w s
  obtain ⟨_, rfl⟩ := h3
  exact ⟨w', _, h1, h2, h⟩
end Go.Sx
set_option linter.unusedSimpArgs false
set_option linter.unusedVariables false
namespace Go.Sx
open Go Go.Conc
theorem ev_buildArr {P : Program} {c : Cx} {n : Nat} {L : Env} {M : List HProp} {dst : Option Nat} {ty : TypeId} {pos : String} {after : Array Edge} {g : Option (Nat × Bool)} {t e : TypeId} {m : Nat} {ps : List (Nat × Operand)} {i ie : TypeInfo} {z : Value} {zs r : List Value} {qs : List (Nat × List Value)}
    (hi : P.info? t = some i) (hz : i.zero = some z) (hzs : z.cells = zs.toArray) (hu : P.underlying t = some (.array m e)) (hie : P.info? e = some ie) (hps : partsOf L ps = some qs) (hb : bld (plN ie.size m) zs qs = some r) : Ev P ⟨dst, .build t ps.toArray, ty, pos, after, g⟩ c n L M (.agg r.toArray) := fun T w s => by
  have e1 := partsOf_eval (ds := c.ds) s.slots hps
  rw [← e1] at hb
  have hf := fill_bld (place := fun i' => some (i' * ie.size, ie.size)) (fun j p hj => by
    simp only [plN, List.getElem?_map] at hj
    cases hk : (List.range m)[j]? with
    | none => rw [hk] at hj; cases hj
    | some x =>
      rw [hk] at hj
      have hx : x = j := by
        have := List.getElem?_eq_some_iff.1 hk
        obtain ⟨h5, h6⟩ := this
        simpa using h6.symm
      subst hx; simpa using hj) hb
  simp only [execOp, Instr.build, zeroValue, typeInfo, run_program, hi, hz, Sem.run_bind, Sem.run_pure, Result.andThen_ok, run_underlying hu, sizeOf, hie, List.map_toArray, hzs, hf]
end Go.Sx
set_option maxRecDepth 20000
namespace Go.Proofs.YtnaabpfpldelmaaGreatDoor
open Go Go.Sx
theorem size_mt : ∀ s : ByteArray, s = (⟨#[]⟩ : ByteArray) → s.size ≤ 65536 := fun s e => by subst e; decide
abbrev mt0 : ByteArray := ⟨#[]⟩
attribute [local irreducible] MidQ wpE wpO wpC qE wpQ wpQO wpH wpHO wpD wpDO wpZ Ev own emp exI sl ch PostS LoopQ Rd rowsAt
set_option maxHeartbeats 2000000 in
theorem sp_births {G : Rg} (E : EnvG G) (w : SpotS) (hw : SpotOk w) : FnDoes Tryz.prog 225 [.agg (spotC w).toArray] [rgH G] (fun y : Rg × ByteArray × ByteArray => EnvG y.1 ∧ grG G y.1) (fun y => .tuple #[.string y.2.1, .string y.2.2]) (fun y => [rgH y.1]) := by
  have hp := sp_put E w hw
  obtain ⟨k, g, nn, d⟩ := w
  obtain ⟨o1, o2, o3, o4⟩ := hw
  try dsimp only at o1 o2 o3 o4 hp ⊢
  refine does_of Tryz.func225 rfl rfl Tryz.ntmps225 rfl eNUM (fun c => ?_)
  (refine go ?_; intro c1)
  (show wpO _ _ ⟨_, .call _, _, _, _, _⟩ _ _ _ _ _ _; refine o_callA (hp) (fun ⟨G1, r1, e1⟩ ⟨E1, x1⟩ => ?_); try simp only [List.cons_append, List.nil_append])
  try dsimp only at E1 x1 ⊢
  have hp2 := sp_put E1 ⟨1, g, nn, mt0⟩ ⟨by dsimp only; omega, o2, o3, size_mt _ rfl⟩
  (repeat' (first | (refine go1 ?_; intros) | (first | (refine o_cmpS ?_ ?_ <;> (intro h_; simp only [cmpP] at h_)) | (refine o_strS ?_ ?_ <;> intro h_) | (refine o_strN ?_ ?_ <;> intro h_) | (refine wpC_condS ?_ ?_ <;> (intro h_; first | subst h_ | skip))) | (first | exact q_ret1 rfl rfl () rfl trivial eNT | exact q_ret2 rfl rfl rfl () rfl trivial eNT | exact q_ret3 rfl rfl rfl rfl () rfl trivial eNT | exact q_ret0 rfl () rfl trivial eNT _ (by first | exact .inl rfl | exact .inr rfl)) | (exact q_ret2 rfl rfl rfl (G1, mt0, mt0) rfl ⟨E1, x1⟩ eNT)))
  all_goals
    (show wpO _ _ ⟨_, .call _, _, _, _, _⟩ _ _ _ _ _ _; refine o_callA (hp2) (fun ⟨G2, r2, e2⟩ ⟨E2, x2⟩ => ?_); try simp only [List.cons_append, List.nil_append])
    try dsimp only at E2 x2 ⊢
    have hp3 := sp_put E2 ⟨5, g, nn, d⟩ ⟨by dsimp only; omega, o2, o3, o4⟩
    (repeat' (first | (refine go1 ?_; intros) | (first | (refine o_cmpS ?_ ?_ <;> (intro h_; simp only [cmpP] at h_)) | (refine o_strS ?_ ?_ <;> intro h_) | (refine o_strN ?_ ?_ <;> intro h_) | (refine wpC_condS ?_ ?_ <;> (intro h_; first | subst h_ | skip))) | (first | exact q_ret1 rfl rfl () rfl trivial eNT | exact q_ret2 rfl rfl rfl () rfl trivial eNT | exact q_ret3 rfl rfl rfl rfl () rfl trivial eNT | exact q_ret0 rfl () rfl trivial eNT _ (by first | exact .inl rfl | exact .inr rfl)) | (exact q_ret2 rfl rfl rfl (G2, mt0, mt0) rfl ⟨E2, x1.trans x2⟩ eNT) | (exact q_ret2 rfl rfl rfl (G2, r2, mt0) rfl ⟨E2, x1.trans x2⟩ eNT)))
    (show wpO _ _ ⟨_, .call _, _, _, _, _⟩ _ _ _ _ _ _; refine o_callA (hp3) (fun ⟨G3, r3, e3⟩ ⟨E3, x3⟩ => ?_); try simp only [List.cons_append, List.nil_append])
    try dsimp only at E3 x3 ⊢
    (repeat' (first | (refine go1 ?_; intros) | (first | (refine o_cmpS ?_ ?_ <;> (intro h_; simp only [cmpP] at h_)) | (refine o_strS ?_ ?_ <;> intro h_) | (refine o_strN ?_ ?_ <;> intro h_) | (refine wpC_condS ?_ ?_ <;> (intro h_; first | subst h_ | skip))) | (first | exact q_ret1 rfl rfl () rfl trivial eNT | exact q_ret2 rfl rfl rfl () rfl trivial eNT | exact q_ret3 rfl rfl rfl rfl () rfl trivial eNT | exact q_ret0 rfl () rfl trivial eNT _ (by first | exact .inl rfl | exact .inr rfl)) | (exact q_ret2 rfl rfl rfl (G3, mt0, mt0) rfl ⟨E3, (x1.trans x2).trans x3⟩ eNT) | (exact q_ret2 rfl rfl rfl (G3, r2, r3) rfl ⟨E3, (x1.trans x2).trans x3⟩ eNT)))
abbrev rnkC (a b : ByteArray) : List Value := [.string a, .string b]
abbrev tBir : TypeId := 159
abbrev birI (b : Nat) : HProp := pts b (.cells [.slice none 0 0, .bool true].toArray tBir (0, 0))
theorem bi_new : FnDoes Tryz.prog 34 [] [] (fun _ : Nat => True) (fun b => pt0 b) (fun b => [birI b]) := by
  refine does_of Tryz.func34 rfl rfl Tryz.ntmps34 rfl eNUM (fun c => ?_)
  (refine go ?_; intro b)
  exact q_ret1 rfl rfl b rfl trivial eNT
theorem bi_none (b : Nat) : FnDoes Tryz.prog 292 [pt0 b] [birI b] (fun _ : Unit => True) (fun _ => .bool false) (fun _ => [birI b]) := by
  refine does_of Tryz.func292 rfl rfl Tryz.ntmps292 rfl eNUM (fun c => ?_)
  (refine go ?_; intros)
  exact q_ret1 rfl rfl () rfl trivial eNT
set_option maxHeartbeats 1000000 in
theorem bi_rank {G : Rg} (E : EnvG G) (t : ByteArray) (ht : t.size ≤ 65536) : FnDoes Tryz.prog 293 [.string t] [rgH G] (fun y : Rg × (ByteArray × ByteArray) × Bool => EnvG y.1 ∧ grG G y.1) (fun y => .tuple #[.agg (rnkC y.2.1.1 y.2.1.2).toArray, .bool y.2.2]) (fun y => [rgH y.1]) := by
  have ho := sp_of E t ht
  refine does_of Tryz.func293 rfl rfl Tryz.ntmps293 rfl eNUM (fun c => ?_)
  (refine go ?_; intro c2)
  (show wpO _ _ ⟨_, .call _, _, _, _, _⟩ _ _ _ _ _ _; refine o_callA (ho) (fun ⟨G1, w⟩ ⟨E1, x1, hw⟩ => ?_); try simp only [List.cons_append, List.nil_append])
  try dsimp only at E1 x1 hw ⊢
  have hb := sp_births E1 w hw
  obtain ⟨k, g, nn, d⟩ := w
  (refine go ?_; intro c4)
  by_cases h1 : k = 1
  · subst h1
    (refine go ?_; intros)
    refine o_evB (ev_buildArr (qs := [(0, [.string t]), (1, [.string mt0])]) (r := rnkC t mt0) rfl rfl rfl rfl rfl rfl rfl) ?_
    (refine go ?_; intros)
    exact q_retAT (l1 := rnkC t mt0) rfl rfl rfl rfl rfl rfl rfl pK (G1, (t, mt0), true) rfl ⟨E1, x1⟩ eNT
  · by_cases h5 : k = 5
    · subst h5
      (refine go ?_; intros)
      (show wpO _ _ ⟨_, .call _, _, _, _, _⟩ _ _ _ _ _ _; refine o_callA (hb) (fun ⟨G2, r1, r2⟩ ⟨E2, x2⟩ => ?_); try simp only [List.cons_append, List.nil_append])
      try dsimp only at E2 x2 ⊢
      (refine go ?_; intros)
      refine o_evB (ev_buildArr (qs := [(0, [.string r1]), (1, [.string t])]) (r := rnkC r1 t) rfl rfl rfl rfl rfl rfl rfl) ?_
      (repeat' (first | (refine go1 ?_; intros) | (first | (refine o_cmpS ?_ ?_ <;> (intro h_; simp only [cmpP] at h_)) | (refine o_strS ?_ ?_ <;> intro h_) | (refine o_strN ?_ ?_ <;> intro h_) | (refine wpC_condS ?_ ?_ <;> (intro h_; first | subst h_ | skip))) | (first | exact q_ret1 rfl rfl () rfl trivial eNT | exact q_ret2 rfl rfl rfl () rfl trivial eNT | exact q_ret3 rfl rfl rfl rfl () rfl trivial eNT | exact q_ret0 rfl () rfl trivial eNT _ (by first | exact .inl rfl | exact .inr rfl)) | (exact q_retAT (l1 := rnkC r1 t) rfl rfl rfl rfl rfl rfl rfl pK (G2, (r1, t), true) rfl ⟨E2, x1.trans x2⟩ eNT) | (exact q_retAT (l1 := rnkC r1 t) rfl rfl rfl rfl rfl rfl rfl pK (G2, (r1, t), false) rfl ⟨E2, x1.trans x2⟩ eNT)))
    · (refine go ?_; intros)
      refine o_evB (ev_buildArr (qs := []) (r := rnkC mt0 mt0) rfl rfl rfl rfl rfl rfl rfl) ?_
      (refine go ?_; intros)
      exact q_retAT (l1 := rnkC mt0 mt0) rfl rfl rfl rfl rfl rfl rfl pK (G1, (mt0, mt0), false) rfl ⟨E1, x1⟩ eNT
end Go.Proofs.YtnaabpfpldelmaaGreatDoor
set_option linter.unusedSimpArgs false
set_option linter.unusedVariables false
set_option maxRecDepth 20000
namespace Go.Proofs.YtnaabpfpldelmaaGreatDoor
open Go Go.Sx
attribute [local irreducible] MidQ wpE wpO wpC qE wpQ wpQO wpH wpHO wpD wpDO wpZ Ev own emp exI sl ch PostS LoopQ Rd rowsAt
theorem bi_index (f : Value) (hf : f.oneCell' = true) : FnDoes Tryz.prog 466 [.slice none 0 0, f] [] (fun _ : Unit => True) (fun _ => .int .i64 (-1)) (fun _ => []) := by
  refine does_of Tryz.func466 rfl rfl Tryz.ntmps466 rfl eNUM (fun c => ?_)
  (refine go ?_; intros)
  refine wpC_loop (σ := Unit) (fun _ => True) (fun _ => [(7, nat64 0), (8, nat64 0)]) (fun _ => []) (fun _ => 0) () trivial sUB eNT (fun _ _ => ?_)
  (refine go ?_; intros)
  exact q_ret1 rfl rfl () rfl trivial eNT
theorem bi_delete (f : Value) (hf : f.oneCell' = true) : FnDoes Tryz.prog 374 [.slice none 0 0, f] [] (fun _ : Unit => True) (fun _ => .slice none 0 0) (fun _ => []) := by
  have hi := bi_index f hf
  refine does_of Tryz.func374 rfl rfl Tryz.ntmps374 rfl eNUM (fun c => ?_)
  (refine go ?_; intros)
  (show wpO _ _ ⟨_, .call _, _, _, _, _⟩ _ _ _ _ _ _; refine o_callA (hi) (fun _ _ => ?_); try simp only [List.cons_append, List.nil_append])
  (refine go ?_; intros)
  exact q_ret1 rfl rfl () rfl trivial eNT
theorem bi_lose (b : Nat) (x y : ByteArray) : FnDoes Tryz.prog 294 [pt0 b, .agg (rnkC x y).toArray] [birI b] (fun _ : Unit => True) (fun _ => nat64 0) (fun _ => [birI b]) := by
  refine does_of Tryz.func294 rfl rfl Tryz.ntmps294 rfl eNUM (fun c => ?_)
  (refine go ?_; intro c3)
  refine o_evB (ev_makeFunc (vb := []) (vf := [pt0 c3]) rfl rfl) ?_
  (refine go ?_; intros)
  have hd := bi_delete (.func (.func 375) #[] [pt0 c3].toArray) rfl
  (show wpO _ _ ⟨_, .call _, _, _, _, _⟩ _ _ _ _ _ _; refine o_callA (hd) (fun _ _ => ?_); try simp only [List.cons_append, List.nil_append])
  (refine go ?_; intros)
  exact q_ret1 rfl rfl () rfl trivial eNT
theorem bi_search (x y : ByteArray) (f : Value) (hf : f.oneCell' = true) : FnDoes Tryz.prog 377 [.slice none 0 0, .agg (rnkC x y).toArray, f] [] (fun _ : Unit => True) (fun _ => .tuple #[nat64 0, .bool false]) (fun _ => []) := by
  refine does_of Tryz.func377 rfl rfl Tryz.ntmps377 rfl eNUM (fun c => ?_)
  (refine go ?_; intro c4)
  refine wpC_loop (σ := Unit) (fun _ => True) (fun _ => [(0, .slice none 0 0), (8, nat64 0), (9, nat64 0), (10, nat64 0), (4, pt0 c4), (2, f)]) (fun _ => []) (fun _ => 0) () trivial sUB eNT (fun _ _ => ?_)
  (refine go ?_; intros)
  refine wpC_drawnA [] 15 ?_
  ((first | refine dt 0 ?_ | refine dts 0 ?_); (first | refine dt 1 ?_ | refine dts 1 ?_); (first | refine df 2 ?_ | refine dfs 2 ?_); (first | refine df 3 ?_ | refine dfs 3 ?_); (first | refine df 4 ?_ | refine dfs 4 ?_); (first | refine dt 5 ?_ | refine dts 5 ?_); (first | refine dt 6 ?_ | refine dts 6 ?_); (first | refine dt 7 ?_ | refine dts 7 ?_); (first | refine dt 8 ?_ | refine dts 8 ?_); (first | refine dt 9 ?_ | refine dts 9 ?_); (first | refine df 10 ?_ | refine dfs 10 ?_); (first | refine df 11 ?_ | refine dfs 11 ?_); (first | refine dt 12 ?_ | refine dts 12 ?_); (first | refine dt 13 ?_ | refine dts 13 ?_); (first | refine df 14 ?_ | refine dfs 14 ?_); refine dl ?_)
  (refine go ?_; intros)
  exact q_ret2 rfl rfl rfl () rfl trivial eNT
theorem bi_find (b : Nat) (x y : ByteArray) : FnDoes Tryz.prog 295 [pt0 b, .agg (rnkC x y).toArray] [birI b] (fun _ : Unit => True) (fun _ => .tuple #[nat64 0, .bool false]) (fun _ => [birI b]) := by
  have hs := bi_search x y (.func (.func 378) #[] #[]) rfl
  refine does_of Tryz.func295 rfl rfl Tryz.ntmps295 rfl eNUM (fun c => ?_)
  (refine go ?_; intro c3)
  refine wpC_drawnA [birI b, pts c3 (.cells (rnkC x y).toArray 445 (0, 0))] 9 ?_
  ((first | refine dt 0 ?_ | refine dts 0 ?_); (first | refine dt 1 ?_ | refine dts 1 ?_); (first | refine dt 2 ?_ | refine dts 2 ?_); (first | refine dt 3 ?_ | refine dts 3 ?_); (first | refine df 4 ?_ | refine dfs 4 ?_))
  refine dcall 5 hs (fun _ _ => ?_)
  simp only [List.cons_append, List.nil_append]
  ((first | refine dt 6 ?_ | refine dts 6 ?_); (first | refine df 7 ?_ | refine dfs 7 ?_); (first | refine df 8 ?_ | refine dfs 8 ?_); refine dl ?_)
  (refine go ?_; intros)
  exact q_ret2 rfl rfl rfl () rfl trivial eNT
theorem bi_insert (p : Nat) (x y t : ByteArray) : FnDoes Tryz.prog 296 [.slice none 0 0, nat64 0, .slice (some ⟨p, 0, none⟩) 1 1] [pts p (.cells [.string x, .string y, .string t].toArray 452 (0, 0))] (fun v : Value => v.oneCell' = true) (fun v => v) (fun _ => []) := by
  refine does_of Tryz.func296 rfl rfl Tryz.ntmps296 rfl eNUM (fun c => ?_)
  (refine go ?_; intros)
  refine o_evB (ev_slcLo (l := 0) 3 rfl rfl rfl rfl rfl rfl (Nat.le_refl _)) ?_
  (refine go ?_; intros)
  refine wpO_ent (Ent.slNil (e := 452) (size := 3) (Ent.refl _)) ?_
  refine o_append (m := 1) (news := [.string x, .string y, .string t]) (sz := 3) rfl rfl rfl rfl rfl rfl rfl rfl pK (src_pts rfl pK rfl rfl rfl) ?_ rfl (fun v' => ?_)
  · decide +kernel
  refine wpE_fact (sl_one pK) (fun h1 => ?_)
  (refine go ?_; intros)
  exact q_ret1 rfl rfl v' rfl h1 eNT
set_option maxHeartbeats 1000000 in
theorem bi_put {G : Rg} (E : EnvG G) (b : Nat) (t s : ByteArray) (ht : t.size ≤ 65536) : FnDoes Tryz.prog 226 [pt0 b, .string t, .string s] [birI b, rgH G] (fun y : Rg × Nat => EnvG y.1 ∧ grG G y.1) (fun y => nat64 y.2) (fun y => [rgH y.1]) := by
  have hn := bi_none b
  have hr := bi_rank E t ht
  refine does_of Tryz.func226 rfl rfl Tryz.ntmps226 rfl eNUM (fun c => ?_)
  (refine go ?_; intros)
  (show wpO _ _ ⟨_, .call _, _, _, _, _⟩ _ _ _ _ _ _; refine o_callA (hn) (fun _ _ => ?_); try simp only [List.cons_append, List.nil_append])
  (refine go ?_; intros)
  (show wpO _ _ ⟨_, .call _, _, _, _, _⟩ _ _ _ _ _ _; refine o_callA (hr) (fun ⟨G1, ⟨x, y⟩, r⟩ ⟨E1, x1⟩ => ?_); try simp only [List.cons_append, List.nil_append])
  try dsimp only at E1 x1 ⊢
  have hl := bi_lose b x y
  have hf := bi_find b x y
  cases r with
  | false =>
    (refine go ?_; intros)
    exact q_ret1 rfl rfl (G1, 13) rfl ⟨E1, x1⟩ eNT
  | true =>
    (refine go ?_; intro c7)
    (show wpO _ _ ⟨_, .call _, _, _, _, _⟩ _ _ _ _ _ _; refine o_callA (hl) (fun _ _ => ?_); try simp only [List.cons_append, List.nil_append])
    (refine go ?_; intros)
    (show wpO _ _ ⟨_, .call _, _, _, _, _⟩ _ _ _ _ _ _; refine o_callA (hf) (fun _ _ => ?_); try simp only [List.cons_append, List.nil_append])
    (refine go ?_; intros)
    refine wpC_drawnA [birI b, pts c7 (.cells (rnkC x y).toArray 445 (0, 0))] 13 ?_
    ((first | refine dt 0 ?_ | refine dts 0 ?_); (first | refine dt 1 ?_ | refine dts 1 ?_); (first | refine dt 2 ?_ | refine dts 2 ?_); (first | refine dt 3 ?_ | refine dts 3 ?_); (first | refine dt 4 ?_ | refine dts 4 ?_); (first | refine dt 5 ?_ | refine dts 5 ?_); (first | refine dt 6 ?_ | refine dts 6 ?_); (first | refine df 7 ?_ | refine dfs 7 ?_); (first | refine df 8 ?_ | refine dfs 8 ?_))
    (refine wpD_eff 9 rfl rfl (by kernel_rfl) rfl rfl ?_; show OVL _ ⟨_, .buildSlice _ _ _, _, _, _, _⟩ _ _ _ _ _ _)
    refine x_buildSlice1 (l := [.string x, .string y, .string s]) (by rfl) (by rfl) (by rfl) (by rfl) (by rfl) (by rfl) (by rfl) (by rfl) (fun p => ⟨eNT, ?_⟩)
    refine dcall 10 (bi_insert p x y s) (fun v hv => ?_)
    simp only [List.cons_append, List.nil_append]
    ((first | refine df 11 ?_ | refine dfs 11 ?_); (first | refine df 12 ?_ | refine dfs 12 ?_))
    (refine wpD_lastU rfl rfl (by kernel_rfl) (by kernel_rfl) rfl ?_; show OUL _ ⟨_, .store _ _ _, _, _, _, _⟩ _ _ _ _ _)
    refine x_store (by rfl) (by rfl) (by rfl) (by rfl) hv pK (Upd1.of (by simp)) ?_
    (refine go ?_; intros)
    exact q_ret1 rfl rfl (G1, 0) rfl ⟨E1, x1⟩ eNT
abbrev tHst : TypeId := 156
abbrev hstC (m : Nat) : List Value := [.string mt0, .bool false, .string mt0, .bool false, .string mt0, .bool false, .string mt0, .bool false, .map (some m)]
abbrev hstI (h m : Nat) : HProp := pts h (.cells (hstC m).toArray tHst (0, 0))
theorem key_str (s : ByteArray) : KeyOk Tryz.prog tStr (.string s) := ⟨fun e w => by cases e <;> kernel_rfl, fun w => by kernel_rfl⟩
theorem ho_new : FnDoes Tryz.prog 33 [] [] (fun _ : Nat × Nat => True) (fun y => pt0 y.1) (fun y => [hstI y.1 y.2, mapR y.2 [] 0]) := by
  refine does_of Tryz.func33 rfl rfl Tryz.ntmps33 rfl eNUM (fun c => ?_)
  (refine go ?_; intros)
  refine o_makeMapR (fun m => ?_)
  (refine go ?_; intro b)
  exact q_ret1 rfl rfl (b, m) rfl trivial eNT
theorem ho_none (h m : Nat) : FnDoes Tryz.prog 283 [pt0 h] [hstI h m] (fun _ : Unit => True) (fun _ => .bool false) (fun _ => [hstI h m]) := by
  refine does_of Tryz.func283 rfl rfl Tryz.ntmps283 rfl eNUM (fun c => ?_)
  (refine go ?_; intros)
  exact q_ret1 rfl rfl () rfl trivial eNT
theorem ho_take (h m : Nat) (nm t : ByteArray) : FnDoes Tryz.prog 220 [pt0 h, .string nm, .string t] [hstI h m, mapR m [] 0] (fun k : Nat => k ≤ 20) (fun k => nat64 k) (fun _ => []) := by
  have hn := ho_none h m
  have hk := key_str nm
  refine does_of Tryz.func220 rfl rfl Tryz.ntmps220 rfl eNUM (fun c => ?_)
  (refine go ?_; intros)
  (show wpO _ _ ⟨_, .call _, _, _, _, _⟩ _ _ _ _ _ _; refine o_callA (hn) (fun _ _ => ?_); try simp only [List.cons_append, List.nil_append])
  (repeat' (first | (refine go1 ?_; intros) | (first | (refine o_cmpS ?_ ?_ <;> (intro h_; simp only [cmpP] at h_)) | (refine o_strS ?_ ?_ <;> intro h_) | (refine o_strN ?_ ?_ <;> intro h_) | (refine wpC_condS ?_ ?_ <;> (intro h_; first | subst h_ | skip))) | (first | exact q_ret1 rfl rfl () rfl trivial eNT | exact q_ret2 rfl rfl rfl () rfl trivial eNT | exact q_ret3 rfl rfl rfl rfl () rfl trivial eNT | exact q_ret0 rfl () rfl trivial eNT _ (by first | exact .inl rfl | exact .inr rfl)) | (exact q_ret1 rfl rfl 7 rfl (by decide : 7 ≤ 20) eNT) | (exact q_ret1 rfl rfl 3 rfl (by decide : 3 ≤ 20) eNT)))
  all_goals
    refine o_evB (ev_lookup0 (ok := true) hk rfl rfl rfl rfl rfl pK) ?_
    (refine go ?_; intros)
    refine o_evB (ev_lenR rfl rfl pK) ?_
    (refine go ?_; intros)
    refine o_mapUpdate0 hk rfl rfl rfl rfl pK ?_
    (repeat' (first | (refine go1 ?_; intros) | (first | (refine o_cmpS ?_ ?_ <;> (intro h_; simp only [cmpP] at h_)) | (refine o_strS ?_ ?_ <;> intro h_) | (refine o_strN ?_ ?_ <;> intro h_) | (refine wpC_condS ?_ ?_ <;> (intro h_; first | subst h_ | skip))) | (first | exact q_ret1 rfl rfl () rfl trivial eNT | exact q_ret2 rfl rfl rfl () rfl trivial eNT | exact q_ret3 rfl rfl rfl rfl () rfl trivial eNT | exact q_ret0 rfl () rfl trivial eNT _ (by first | exact .inl rfl | exact .inr rfl)) | (refine o_evB (ev_indexArr 2 (i := 0) rfl rfl rfl rfl rfl rfl (by decide)) ?_) | (refine o_store_part (vs := [.string nm, .bool true]) rfl rfl rfl rfl rfl rfl pK (by simp) rfl ?_) | (refine o_store_part (vs := [.string nm, .bool false]) rfl rfl rfl rfl rfl rfl pK (by simp) rfl ?_) | (exact q_ret1 rfl rfl 1 rfl (by decide : 1 ≤ 20) eNT)))
end Go.Proofs.YtnaabpfpldelmaaGreatDoor
set_option linter.unusedSimpArgs false
set_option linter.unusedVariables false
namespace Go.Sx
open Go Go.Conc
theorem ev_quoM {P : Program} {c : Cx} {n : Nat} {L : Env} {M : List HProp} {dst : Option Nat} {ty : TypeId} {pos : String} {after : Array Edge} {g : Option (Nat × Bool)} {t t' : TypeId} {x y : Operand} (hx : opnd L x = some (.int .i64 (-1))) (hy : opnd L y = some (.int .i64 2)) :
    Ev P ⟨dst, .binOp .quo t x y t', ty, pos, after, g⟩ c n L M (.int .i64 0) := fun T w s => by
  simp [execOp, opnd_eval s.slots hx, opnd_eval s.slots hy, eqGuard, binOp, Op.intDiv]
  decide
theorem sl_slice {c : Cx} {M : List HProp} {e size len : Nat} {v : Value} {xs : List Value} {R : List HProp} (hp : Pick M (sl e size v len xs) R) : ∀ w, HSt c M w → ∃ a cap, v = .slice a len cap := fun w s => by
  obtain ⟨_, _, h⟩ := sl_open hp s
  rcases h with ⟨rfl, rfl, _⟩ | ⟨b, cap, junk, rfl, _⟩
  · exact ⟨_, _, rfl⟩
  · exact ⟨_, _, rfl⟩
theorem pts_cell {b off : Nat} {l : List Value} {T : TypeId} {f : Nat × Nat} {u : Value} {R : List HProp} (hu : l[off]? = some u) : ∀ h, sepL (pts b (.cells l.toArray T f) :: R) h → h.cell? ⟨b, off, none⟩ = some u := fun h s => by
  obtain ⟨h1, h2, e1, _, _, l1, _⟩ := s
  have e1' : h1 = single b (.cells l.toArray T f) := e1
  subst e1'
  have := l1 b _ (by simp [single]; rfl)
  simp [PHeap.cell?, this, hu]
end Go.Sx
set_option maxRecDepth 20000
namespace Go.Proofs.YtnaabpfpldelmaaGreatDoor
open Go Go.Sx
abbrev tRat : TypeId := 150
abbrev ratI (r : Nat) (v : Value) : HProp := pts r (.cells [nat64 10, v, .bool true].toArray tRat (0, 0))
abbrev tMks : TypeId := 453
attribute [local irreducible] MidQ wpE wpO wpC qE wpQ wpQO wpH wpHO wpD wpDO wpZ Ev own emp exI sl ch PostS LoopQ Rd rowsAt
theorem ra_timed (k : Int) : FnDoes Tryz.prog 52 [.int .i64 k] [] (fun _ : Unit => True) (fun _ => .bool (decide (0 ≤ k ∧ k ≤ 1073741824))) (fun _ => []) := by
  refine does_of Tryz.func52 rfl rfl Tryz.ntmps52 rfl eNUM (fun c => ?_)
  by_cases h0 : k ≥ 0
  · by_cases h1 : k ≤ 1073741824
    · rw [decide_eq_true ⟨h0, h1⟩]
      (refine go ?_; intros)
      exact q_ret1 rfl rfl () rfl trivial eNT
    · rw [decide_eq_false (fun h => h1 h.2)]
      (refine go ?_; intros)
      exact q_ret1 rfl rfl () rfl trivial eNT
  · rw [decide_eq_false (fun h => h0 h.1)]
    (refine go ?_; intros)
    exact q_ret1 rfl rfl () rfl trivial eNT
theorem ra_new : FnDoes Tryz.prog 32 [nat64 10] [] (fun _ : Nat => True) (fun b => .tuple #[pt0 b, nat64 0]) (fun b => [ratI b (.slice none 0 0)]) := by
  have ht := ra_timed 10
  rw [decide_eq_true (by omega)] at ht
  refine does_of Tryz.func32 rfl rfl Tryz.ntmps32 rfl eNUM (fun c => ?_)
  (refine go ?_; intros)
  (show wpO _ _ ⟨_, .call _, _, _, _, _⟩ _ _ _ _ _ _; refine o_callA (ht) (fun _ _ => ?_); try simp only [List.cons_append, List.nil_append])
  (refine go ?_; intro b)
  exact q_ret2 rfl rfl rfl b rfl trivial eNT
theorem ra_none (r : Nat) (v : Value) : FnDoes Tryz.prog 382 [pt0 r] [ratI r v] (fun _ : Unit => True) (fun _ => .bool false) (fun _ => [ratI r v]) := by
  refine does_of Tryz.func382 rfl rfl Tryz.ntmps382 rfl eNUM (fun c => ?_)
  (refine go ?_; intros)
  exact q_ret1 rfl rfl () rfl trivial eNT
theorem ra_find (r : Nat) (key : ByteArray) : FnDoes Tryz.prog 298 [pt0 r, .string key] [ratI r (.slice none 0 0)] (fun _ : Unit => True) (fun _ => .int .i64 (-1)) (fun _ => [ratI r (.slice none 0 0)]) := by
  have hi : ∀ f : Value, f.oneCell' = true → FnDoes Tryz.prog 383 [.slice none 0 0, f] [] (fun _ : Unit => True) (fun _ => .int .i64 (-1)) (fun _ => []) := fun f hf => by
    refine does_of Tryz.func383 rfl rfl Tryz.ntmps383 rfl eNUM (fun c => ?_)
    (refine go ?_; intros)
    refine wpC_loop (σ := Unit) (fun _ => True) (fun _ => [(7, nat64 0), (8, nat64 0)]) (fun _ => []) (fun _ => 0) () trivial sUB eNT (fun _ _ => ?_)
    (refine go ?_; intros)
    exact q_ret1 rfl rfl () rfl trivial eNT
  refine does_of Tryz.func298 rfl rfl Tryz.ntmps298 rfl eNUM (fun c => ?_)
  (refine go ?_; intro c3)
  refine o_evB (ev_makeFunc (vb := []) (vf := [pt0 c3]) rfl rfl) ?_
  (refine go ?_; intros)
  have hd := hi (.func (.func 384) #[] [pt0 c3].toArray) rfl
  (show wpO _ _ ⟨_, .call _, _, _, _, _⟩ _ _ _ _ _ _; refine o_callA (hd) (fun _ _ => ?_); try simp only [List.cons_append, List.nil_append])
  (refine go ?_; intros)
  exact q_ret1 rfl rfl () rfl trivial eNT
theorem ra_may (r : Nat) (key : ByteArray) (k : Int) : FnDoes Tryz.prog 297 [pt0 r, .string key, .int .i64 k] [ratI r (.slice none 0 0)] (fun _ : Bool => True) (fun b => .bool b) (fun _ => [ratI r (.slice none 0 0)]) := by
  have hn := ra_none r (.slice none 0 0)
  have ht := ra_timed k
  have hf := ra_find r key
  refine does_of Tryz.func297 rfl rfl Tryz.ntmps297 rfl eNUM (fun c => ?_)
  (refine go ?_; intros)
  (show wpO _ _ ⟨_, .call _, _, _, _, _⟩ _ _ _ _ _ _; refine o_callA (hn) (fun _ _ => ?_); try simp only [List.cons_append, List.nil_append])
  (refine go ?_; intros)
  (show wpO _ _ ⟨_, .call _, _, _, _, _⟩ _ _ _ _ _ _; refine o_callA (ht) (fun _ _ => ?_); try simp only [List.cons_append, List.nil_append])
  cases decide (0 ≤ k ∧ k ≤ 1073741824) with
  | false =>
    (refine go ?_; intros)
    exact q_ret1 rfl rfl false rfl trivial eNT
  | true =>
    (refine go ?_; intros)
    (show wpO _ _ ⟨_, .call _, _, _, _, _⟩ _ _ _ _ _ _; refine o_callA (hf) (fun _ _ => ?_); try simp only [List.cons_append, List.nil_append])
    (refine go ?_; intros)
    exact q_ret1 rfl rfl true rfl trivial eNT
theorem mk_push (r p : Nat) : FnDoes Tryz.prog 601 [.pointer (some ⟨r, 1, none⟩), .iface 454 (pt0 p)] [ratI r (.slice none 0 0)] (fun y : Option Addr × Nat => True) (fun _ => .tuple #[]) (fun y => [ratI r (.slice y.1 1 y.2)]) := by
  refine does_of Tryz.func601 rfl rfl Tryz.ntmps601 rfl eNUM (fun c => ?_)
  (refine go ?_; intros)
  refine wpC_ent (Ent.slNil (e := 454) (size := 1) (Ent.refl _)) ?_
  refine wpC_drawnA [ratI r (.slice none 0 0)] 9 ?_
  ((first | refine dt 0 ?_ | refine dts 0 ?_); (first | refine dt 1 ?_ | refine dts 1 ?_); (first | refine dt 2 ?_ | refine dts 2 ?_); (first | refine dt 3 ?_ | refine dts 3 ?_); (first | refine df 4 ?_ | refine dfs 4 ?_); (first | refine df 5 ?_ | refine dfs 5 ?_))
  (refine wpD_eff 6 rfl rfl (by kernel_rfl) rfl rfl ?_; show OVL _ ⟨_, .buildSlice _ _ _, _, _, _, _⟩ _ _ _ _ _ _)
  refine x_buildSlice1 (by rfl) (by rfl) (by rfl) (by rfl) (by rfl) (by rfl) (by rfl) (by rfl) (fun bb => ⟨eNT, ?_⟩)
  (refine wpD_eff 7 rfl rfl (by kernel_rfl) rfl rfl ?_; show OVL _ ⟨_, .call { callee := .builtin .append, args := _, argTypes := _ }, _, _, _, _⟩ _ _ _ _ _ _)
  refine x_append (m := 1) (news := [pt0 p]) (sz := 1) (by rfl) (by rfl) (by rfl) (by rfl) (by rfl) (by rfl) (by rfl) (by rfl) pK (src_pts rfl pK rfl rfl rfl) (by decide +kernel) (fun v' => ⟨eNT, ?_⟩)
  refine wpD_fact (sl_slice pK) (fun hv => ?_)
  obtain ⟨a, cap, rfl⟩ := hv
  ((first | refine df 8 ?_ | refine dfs 8 ?_))
  (refine wpD_lastU rfl rfl (by kernel_rfl) (by kernel_rfl) rfl ?_; show OUL _ ⟨_, .store _ _ _, _, _, _, _⟩ _ _ _ _ _)
  refine x_store (by rfl) (by rfl) (by rfl) (by rfl) (by rfl) pK (Upd1.of (by simp)) ?_
  (refine go ?_; intros)
  exact q_ret0 rfl (a, cap) rfl trivial eNT _ (.inr rfl)
theorem mk_len (r : Nat) (a : Option Addr) (cap : Nat) : FnDoes Tryz.prog 592 [.slice a 1 cap] [ratI r (.slice a 1 cap)] (fun _ : Unit => True) (fun _ => nat64 1) (fun _ => [ratI r (.slice a 1 cap)]) := by
  refine does_of Tryz.func592 rfl rfl Tryz.ntmps592 rfl eNUM (fun c => ?_)
  (refine go ?_; intros)
  exact q_ret1 rfl rfl () rfl trivial eNT
theorem hp_push (r p : Nat) : FnDoes Tryz.prog 126 [.iface tMks (.pointer (some ⟨r, 1, none⟩)), .iface 454 (pt0 p)] [ratI r (.slice none 0 0)] (fun _ : Unit => True) (fun _ => .tuple #[]) (fun _ => []) := by
  have h1 : InvDoes Tryz.prog tMks (.pointer (some ⟨r, 1, none⟩)) "Push" [.iface 454 (pt0 p)] [ratI r (.slice none 0 0)] (fun y : Option Addr × Nat => True) (fun _ => .tuple #[]) (fun y => [ratI r (.slice y.1 1 y.2)]) := InvDoes.direct (mk_push r p) (by decide +kernel)
  have h2 := fun a cap => InvDoes.loaded (t := tMks) (a := ⟨r, 1, none⟩) (name := "Len") (e := 148) (d := .slice 454) (mk_len r a cap) (by decide +kernel) rfl rfl (pts_cell rfl)
  have h3 : FnDoes Tryz.prog 116 [.iface tMks (.pointer (some ⟨r, 1, none⟩)), nat64 0] [] (fun _ : Unit => True) (fun _ => .tuple #[]) (fun _ => []) := by
    refine does_of Tryz.func116 rfl rfl Tryz.ntmps116 rfl eNUM (fun c => ?_)
    (refine go ?_; intros)
    refine wpC_loop (σ := Unit) (fun _ => True) (fun _ => [(0, .iface tMks (.pointer (some ⟨r, 1, none⟩))), (1, nat64 0)]) (fun _ => []) (fun _ => 0) () trivial sUB eNT (fun _ _ => ?_)
    (refine go ?_; intros)
    refine o_evB (ev_quoM rfl rfl) ?_
    (refine go ?_; intros)
    exact q_ret0 rfl () rfl trivial eNT _ (.inr rfl)
  refine does_of Tryz.func126 rfl rfl Tryz.ntmps126 rfl eNUM (fun c => ?_)
  (refine go ?_; intros)
  (show wpO _ _ ⟨_, .call _, _, _, _, _⟩ _ _ _ _ _ _; refine o_invokeI (h1) (fun ⟨a, cap⟩ _ => ?_); try simp only [List.cons_append, List.nil_append])
  (refine go ?_; intros)
  (show wpO _ _ ⟨_, .call _, _, _, _, _⟩ _ _ _ _ _ _; refine o_invokeI (h2 a cap) (fun _ _ => ?_); try simp only [List.cons_append, List.nil_append])
  (refine go ?_; intros)
  (show wpO _ _ ⟨_, .call _, _, _, _, _⟩ _ _ _ _ _ _; refine o_callA (h3) (fun _ _ => ?_); try simp only [List.cons_append, List.nil_append])
  (refine go ?_; intros)
  exact q_ret0 rfl () rfl trivial eNT _ (.inr rfl)
theorem ra_ask (r : Nat) (key : ByteArray) (k : Int) : FnDoes Tryz.prog 228 [pt0 r, .string key, .int .i64 k] [ratI r (.slice none 0 0)] (fun _ : Bool => True) (fun b => .bool b) (fun _ => []) := by
  have hm := ra_may r key k
  have hf := ra_find r key
  have hp := fun p => hp_push r p
  refine does_of Tryz.func228 rfl rfl Tryz.ntmps228 rfl eNUM (fun c => ?_)
  (refine go ?_; intros)
  (show wpO _ _ ⟨_, .call _, _, _, _, _⟩ _ _ _ _ _ _; refine o_callA (hm) (fun m _ => ?_); try simp only [List.cons_append, List.nil_append])
  cases m with
  | false =>
    (refine go ?_; intros)
    exact q_ret1 rfl rfl false rfl trivial eNT
  | true =>
    (refine go ?_; intros)
    (show wpO _ _ ⟨_, .call _, _, _, _, _⟩ _ _ _ _ _ _; refine o_callA (hf) (fun _ _ => ?_); try simp only [List.cons_append, List.nil_append])
    (refine go ?_; intro p)
    (show wpO _ _ ⟨_, .call _, _, _, _, _⟩ _ _ _ _ _ _; refine o_callA (hp p) (fun _ _ => ?_); try simp only [List.cons_append, List.nil_append])
    (refine go ?_; intros)
    exact q_ret1 rfl rfl true rfl trivial eNT
end Go.Proofs.YtnaabpfpldelmaaGreatDoor
