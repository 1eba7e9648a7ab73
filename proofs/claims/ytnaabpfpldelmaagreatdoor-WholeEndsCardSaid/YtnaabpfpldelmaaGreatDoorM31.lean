/-
  Packets out of chunks: bytes wait; a packet is taken.
  Packets: told from their bytes.
  Packets: told from their bytes (the whole of it).
  Packets: put (answers alone).
-/
import Derived.Test.YtnaabpfpldelmaaGreatDoorM30
import Derived.Test.YtnaabpfpldelmaaGreatDoorM14
set_option linter.unusedSimpArgs false
set_option linter.unusedVariables false
namespace Go.Sx
open Go Go.Conc
theorem ev_ifNe {P : Program} {c : Cx} {n : Nat} {L : Env} {M : List HProp} {dst : Option Nat} {ty : TypeId} {pos : String} {after : Array Edge} {g : Option (Nat × Bool)} {op : BinOp} {t t' : TypeId} {x y : Operand} {r : Bool} {m : Array (String × TypeId)} {d : TypeId} {u : Value} (hx : opnd L x = some .nilIface) (hy : opnd L y = some (.iface d u)) (hu : P.underlying t = some (.interface m)) (hr : nilOp op false = some r) : Ev P ⟨dst, .binOp op t x y t', ty, pos, after, g⟩ c n L M (.bool r) := ev_bin hx hy fun w _ =>
  run_eqn (by rintro _ (rfl | rfl) <;> (cases x <;> cases y <;> rfl)) rfl rfl (by rw [Op.equalIn, Sem.run_bind, run_underlying hu]; rfl) hr
theorem q_retA3 {P : Program} {c : Cx} {n : Nat} {L : Env} {M : List HProp} {σ : Type} {fn : Func} {φ : σ → Prop} {val : σ → Value} {B : σ → List HProp} {a1 b1 t x y : Nat} {t1 T1 : TypeId} {f1 : Nat × Nat} {l1 : List Value} {v v' v'' : Value} {R1 : List HProp} {d1 : TypeDesc} {i1 : TypeInfo} (hr : fn.results = #[.cell a1 t1, .tmp t, .tmp x, .tmp y]) (h1 : L.get a1 = some (.pointer (some ⟨b1, 0, none⟩))) (ht : L.get t = some v) (hx : L.get x = some v') (hy' : L.get y = some v'')
    (hu1 : P.underlying t1 = some d1) (hg1 : aggD d1 = true) (hi1 : P.info? t1 = some i1) (hs : l1.length = i1.size) (hp1 : Pick M (pts b1 (.cells l1.toArray T1 f1)) R1) (y : σ) (hv : Value.tuple #[.agg l1.toArray, v, v', v''] = val y) (hy : φ y) (hM : Ent M (B y)) :
    qE (fnPost c P fn (PostS c φ val B)) .ret c n L M := fun T w s => by
  have e1 := s.slots _ _ h1
  have e2 := s.slots _ _ ht
  have e3 := s.slots _ _ hx
  have e4 := s.slots _ _ hy'
  have l1' := run_loadVar_agg (P := P) (b := b1) (off := 0) hu1 hg1 hi1 hs (w := w) (fun j v e => by rw [cell_pts (s.heap.pts hp1)]; simpa using e)
  exact ⟨rfl, .tuple #[.agg l1.toArray, v, v', v''], by simp [results, hr, e1, e2, e3, e4, asAddr, l1'], y, hy, by rw [hv], s.heap.ent hM⟩
end Go.Sx
set_option maxRecDepth 20000
namespace Go.Proofs.YtnaabpfpldelmaaGreatDoor
open Go Go.Sx
abbrev frmI (f : Nat) (v : Value) (k : Nat) : HProp := pts f (.cells [v, nat64 k, nat64 0, .bool true].toArray 200 (0, 0))
structure PktAt (l : List UInt8) (kd m k : Nat) (body : List UInt8) : Prop where
  o1 : kindOk kd
  o2 : 0 < l.length
  o3 : at8 l 0 = kd * 16
  o4 : LenAt (l.drop 1) m k
  o5 : l.length = 1 + k + m
  o6 : (l.drop (1 + k)).take m = body
  o7 : m ≤ 4096
  o8 : k ≤ 2
abbrev rawC (kd m : Nat) (s : ByteArray) : List Value := [nat64 kd, nat64 0, nat64 m, .string s]
attribute [local irreducible] MidQ wpE wpO wpC qE wpQ wpQO wpH wpHO wpD wpDO wpZ Ev own emp exI sl ch PostS LoopQ Rd rowsAt
theorem fm_new : FnDoes Tryz.prog 69 [] [] (fun _ : Nat => True) (fun f => pt0 f) (fun f => [frmI f (.slice none 0 0) 0]) := by
  refine does_of Tryz.func69 rfl rfl Tryz.ntmps69 rfl eNUM (fun c => ?_)
  (refine go ?_; intro f)
  exact q_ret1 rfl rfl f rfl trivial eNT
theorem fm_none (f k : Nat) (v : Value) : FnDoes Tryz.prog 89 [pt0 f] [frmI f v k] (fun _ : Unit => True) (fun _ => .bool false) (fun _ => [frmI f v k]) := by
  refine does_of Tryz.func89 rfl rfl Tryz.ntmps89 rfl eNUM (fun c => ?_)
  (refine go ?_; intros)
  exact q_ret1 rfl rfl () rfl trivial eNT
set_option maxHeartbeats 1000000 in
theorem fm_feed (f k cap : Nat) (a : Option Addr) (s : ByteArray) (h0 : 0 < s.size) (hs : s.size ≤ 1000000) : FnDoes Tryz.prog 70 [pt0 f, .string s] [frmI f (.slice a 0 cap) k] (fun _ : Value => True) (fun _ => nat64 0) (fun v => [frmI f v k, bytI v s.data.toList]) := by
  have hn := fm_none f k (.slice a 0 cap)
  have hsz : s.data.toList.length = s.size := Array.length_toList
  refine does_of Tryz.func70 rfl rfl Tryz.ntmps70 rfl eNUM (fun c => ?_)
  (refine go ?_; intros)
  (show wpO _ _ ⟨_, .call _, _, _, _, _⟩ _ _ _ _ _ _; refine o_callA (hn) (fun _ _ => ?_); try simp only [List.cons_append, List.nil_append])
  (refine go ?_; intros)
  refine wpC_drawnA [frmI f (.slice a 0 cap) k] 20 ?_
  ((first | refine dt 0 ?_ | refine dts 0 ?_); (first | refine dt 1 ?_ | refine dts 1 ?_); (first | refine dt 2 ?_ | refine dts 2 ?_); (first | refine dt 3 ?_ | refine dts 3 ?_); (first | refine dt 4 ?_ | refine dts 4 ?_); (first | refine dt 5 ?_ | refine dts 5 ?_); (first | refine dt 6 ?_ | refine dts 6 ?_); (first | refine dt 7 ?_ | refine dts 7 ?_); (first | refine dt 8 ?_ | refine dts 8 ?_); (first | refine dt 9 ?_ | refine dts 9 ?_); (first | refine dt 10 ?_ | refine dts 10 ?_); (first | refine dt 11 ?_ | refine dts 11 ?_); (first | refine dt 12 ?_ | refine dts 12 ?_); (first | refine dt 13 ?_ | refine dts 13 ?_); (first | refine dt 14 ?_ | refine dts 14 ?_))
  refine dtB 15 rfl (ev_slcZ rfl rfl rfl rfl rfl) ?_
  ((first | refine df 16 ?_ | refine dfs 16 ?_))
  (refine wpD_eff 17 rfl rfl (by kernel_rfl) rfl rfl ?_; show OVL _ ⟨_, .call _, _, _, _, _⟩ _ _ _ _ _ _)
  refine x_appendZ (m := s.size) (news := u8s s.data.toList) (sz := 1) (by rfl) (by rfl) (by rfl) (by rfl) (by rfl) (by rfl) (by rfl) (by rfl) (src_str rfl) h0 ?_ (fun v => ⟨eNT, ?_⟩)
  · have hb : Tryz.prog.types[5].bytes ≤ 1000 := by decide +kernel
    have := Nat.mul_le_mul hs hb
    omega
  refine wpD_fact (sl_one (v := v) .head) (fun o3 => ?_)
  ((first | refine df 18 ?_ | refine dfs 18 ?_); (first | refine df 19 ?_ | refine dfs 19 ?_))
  (refine wpD_lastU rfl rfl (by kernel_rfl) (by kernel_rfl) rfl ?_; show OUL _ ⟨_, .store _ _ _, _, _, _, _⟩ _ _ _ _ _)
  refine x_store (by rfl) (by rfl) (by rfl) (by rfl) o3 pK (Upd1.of (by simp)) ?_
  rw [← hsz]
  (refine go ?_; intros)
  exact q_ret1 rfl rfl v rfl trivial eNT
set_option maxHeartbeats 1000000 in
theorem fm_look {G : Rg} (hM : mayG G) (f k : Nat) (v : Value) (l : List UInt8) (kd m kk : Nat) (body : List UInt8) (hp : PktAt l kd m kk body) : FnDoes Tryz.prog 176 [pt0 f] [frmI f v k, bytI v l, rgH G] (fun _ : Unit => True) (fun _ => .tuple #[.agg (hedC kd 0 m).toArray, nat64 (1 + kk), nat64 (1 + kk + m), .nilIface]) (fun _ => [frmI f v k, bytI v l, rgH G]) := by
  obtain ⟨p1, p2, p3, p4, p5, p6, p7, p8⟩ := hp
  have hg := hd_get hM (X := bytI v l) (v := v) (l := l) Rd.ofSl (by omega) 0 kd m kk p1 p2 p3 p4 p7 (by omega)
  rw [show 0 + 1 + kk = 1 + kk by omega] at hg
  have hkd : kd ≤ 14 := by unfold kindOk at p1; omega
  refine does_of Tryz.func176 rfl rfl Tryz.ntmps176 rfl eNUM (fun c => ?_)
  refine wpC_fact (Rd.isSlice (X := bytI v l) (sz := 1) (m := l.length) (xs := u8s l) Rd.ofSl pK) (fun hs => ?_)
  obtain ⟨a, cap, rfl, ha⟩ := hs
  (refine go ?_; intros)
  (show wpO _ _ ⟨_, .call _, _, _, _, _⟩ _ _ _ _ _ _; refine o_callA (hg) (fun _ _ => ?_); try simp only [List.cons_append, List.nil_append])
  (refine go ?_; intro c6)
  refine wpC_drawnA [frmI f (.slice a l.length cap) k, pts c6 (.cells (hedC kd 0 m).toArray 78 (0, 0))] 10 ?_
  ((first | refine dt 0 ?_ | refine dts 0 ?_); (first | refine dt 1 ?_ | refine dts 1 ?_); (first | refine dt 2 ?_ | refine dts 2 ?_); (first | refine dt 3 ?_ | refine dts 3 ?_); (first | refine dt 4 ?_ | refine dts 4 ?_); (first | refine dt 5 ?_ | refine dts 5 ?_); (first | refine dt 6 ?_ | refine dts 6 ?_); (first | refine df 7 ?_ | refine dfs 7 ?_); (first | refine df 8 ?_ | refine dfs 8 ?_); (first | refine df 9 ?_ | refine dfs 9 ?_); refine dl ?_)
  (refine go ?_; intros)
  refine wpC_drawnA [frmI f (.slice a l.length cap) k, pts c6 (.cells (hedC kd 0 m).toArray 78 (0, 0))] 9 ?_
  ((first | refine dt 0 ?_ | refine dts 0 ?_); (first | refine dt 1 ?_ | refine dts 1 ?_); (first | refine dt 2 ?_ | refine dts 2 ?_); (first | refine dt 3 ?_ | refine dts 3 ?_); (first | refine dt 4 ?_ | refine dts 4 ?_); (first | refine dt 5 ?_ | refine dts 5 ?_))
  (refine wpD_effU 6 rfl rfl (by decide +kernel) rfl ?_; show OUL _ ⟨_, .store _ _ _, _, _, _, _⟩ _ _ _ _ _)
  refine x_storeP (vs := hedC kd 0 m) (by rfl) (by rfl) (by rfl) (by rfl) (by rfl) (by rfl) pK (by simp) rfl ⟨eNT, ?_⟩
  ((first | refine df 7 ?_ | refine dfs 7 ?_); (first | refine df 8 ?_ | refine dfs 8 ?_); refine dl ?_)
  (refine go ?_; intros)
  exact q_retA3 (l1 := hedC kd 0 m) rfl rfl rfl rfl rfl rfl rfl rfl rfl pK () (by rw [show ((1 + kk : Nat) : Int) + (m : Int) = ((1 + kk + m : Nat) : Int) by omega]) trivial eNT
abbrev tFault : TypeId := 372
abbrev fltV : Value := .iface tFault (.agg [nat64 2].toArray)
theorem fm_short : FnDoes Tryz.prog 178 [] [] (fun _ : Unit => True) (fun _ => fltV) (fun _ => []) := by
  refine does_of Tryz.func178 rfl rfl Tryz.ntmps178 rfl eNUM (fun c => ?_)
  (refine go ?_; intros)
  exact q_ret1 rfl rfl () rfl trivial eNT
theorem er_is : FnDoes Tryz.prog 177 [.nilIface, fltV] [] (fun _ : Unit => True) (fun _ => .bool false) (fun _ => []) := by
  refine does_of Tryz.func177 rfl rfl Tryz.ntmps177 rfl eNUM (fun c => ?_)
  (refine go ?_; intros)
  refine o_evB (ev_nilIf0 rfl rfl rfl) ?_
  (refine go ?_; intros)
  refine o_evB (ev_ifNe rfl rfl rfl rfl) ?_
  (refine go ?_; intros)
  exact q_ret1 rfl rfl () rfl trivial eNT
set_option maxHeartbeats 1000000 in
theorem fm_next {G : Rg} (hM : mayG G) (f k : Nat) (hk : k ≤ 1000) (v : Value) (l : List UInt8) (kd m kk : Nat) (body : List UInt8) (hp : PktAt l kd m kk body) : FnDoes Tryz.prog 123 [pt0 f] [frmI f v k, bytI v l, rgH G] (fun _ : Option Addr × Nat => True) (fun _ => .tuple #[.agg (rawC kd m (txt body)).toArray, .bool true, nat64 0]) (fun y => [frmI f (.slice y.1 0 y.2) (k + 1), rgH G]) := by
  have hl := fm_look hM f k v l kd m kk body hp
  have hn := fm_none f k v
  obtain ⟨p1, p2, p3, p4, p5, p6, p7, p8⟩ := hp
  refine does_of Tryz.func123 rfl rfl Tryz.ntmps123 rfl eNUM (fun c => ?_)
  refine wpC_fact (Rd.isSlice (X := bytI v l) (sz := 1) (m := l.length) (xs := u8s l) Rd.ofSl pK) (fun hs => ?_)
  obtain ⟨a, cap, rfl, ha⟩ := hs
  have hB := Bs.part (X := bytI (.slice a l.length cap) l) (l := l) (a := a) (cap := cap) (Rd.ofSl (e := tU8)) (i := 1 + kk) (k := m) (by omega)
  rw [p6] at hB
  obtain ⟨_, _, _, hcap⟩ := ha p2
  rw [p5] at hcap
  have hbl : body.length = m := by rw [← p6, List.length_take, List.length_drop]; omega
  (refine go ?_; intro c2)
  (show wpO _ _ ⟨_, .call _, _, _, _, _⟩ _ _ _ _ _ _; refine o_callA (hn) (fun _ _ => ?_); try simp only [List.cons_append, List.nil_append])
  (refine go ?_; intros)
  (show wpO _ _ ⟨_, .call _, _, _, _, _⟩ _ _ _ _ _ _; refine o_callA (hl) (fun _ _ => ?_); try simp only [List.cons_append, List.nil_append])
  (refine go ?_; intro c5)
  (show wpO _ _ ⟨_, .call _, _, _, _, _⟩ _ _ _ _ _ _; refine o_callA (fm_short) (fun _ _ => ?_); try simp only [List.cons_append, List.nil_append])
  (refine go ?_; intros)
  (show wpO _ _ ⟨_, .call _, _, _, _, _⟩ _ _ _ _ _ _; refine o_callA (er_is) (fun _ _ => ?_); try simp only [List.cons_append, List.nil_append])
  (refine go ?_; intros)
  refine o_evB (ev_nilIf0 rfl rfl rfl) ?_
  (refine go ?_; intros)
  refine wpC_drawnA [pts c5 (.cells (hedC kd 0 m).toArray 78 (0, 0)), frmI f (.slice a l.length cap) k, bytI (.slice a l.length cap) l] 11 ?_
  ((first | refine dt 0 ?_ | refine dts 0 ?_); (first | refine dt 1 ?_ | refine dts 1 ?_); (first | refine dt 2 ?_ | refine dts 2 ?_); (first | refine dt 3 ?_ | refine dts 3 ?_); (first | refine dt 4 ?_ | refine dts 4 ?_); (first | refine dt 5 ?_ | refine dts 5 ?_); (first | refine dt 6 ?_ | refine dts 6 ?_))
  refine dtB 7 rfl (ev_slcLoHi (l := 1 + kk) (m := m) 1 rfl rfl rfl rfl rfl rfl rfl rfl hcap) ?_
  refine dtB 8 rfl (ev_str rfl rfl rfl rfl hB pK) ?_
  ((first | refine dt 9 ?_ | refine dts 9 ?_))
  (refine wpD_eff 10 rfl rfl (by kernel_rfl) rfl rfl ?_; show OVL _ ⟨_, .alloc _, _, _, _, _⟩ _ _ _ _ _ _)
  refine x_alloc (by rfl) (by rfl) (by rfl) (fun c9 => ⟨eNT, ?_⟩)
  (refine wpD_lastU rfl rfl (by kernel_rfl) (by kernel_rfl) rfl ?_; show OUL _ ⟨_, .store _ _ _, _, _, _, _⟩ _ _ _ _ _)
  refine x_storeP (vs := rawC kd m (txt body)) (by rfl) (by rfl) (by rfl) (by rfl) (by rfl) (by rfl) pK (by simp) rfl ?_
  (refine go ?_; intros)
  refine o_evB (ev_slcLo (l := 1 + kk + m) 1 rfl rfl rfl rfl rfl rfl (by omega)) ?_
  (refine go ?_; intros)
  rw [show l.length - (1 + kk + m) = 0 by omega]
  exact q_retATT (l1 := rawC kd m (txt body)) rfl rfl rfl rfl rfl rfl rfl rfl pK (if cap = 1 + kk + m then a else a.map fun x => x.add ((1 + kk + m) * 1), cap - (1 + kk + m)) rfl trivial eNT
end Go.Proofs.YtnaabpfpldelmaaGreatDoor
set_option linter.unusedSimpArgs false
set_option linter.unusedVariables false
set_option maxRecDepth 20000
namespace Go.Proofs.YtnaabpfpldelmaaGreatDoor
open Go Go.Sx
structure CoS where
  lv : Nat
  cl : Bool
  kp : Nat
  id : ByteArray
  hw : Bool
  wt : ByteArray
  wx : ByteArray
  wq : Nat
  wr : Bool
  hu : Bool
  us : ByteArray
  hp : Bool
  ps : ByteArray
abbrev coC (c : CoS) : List Value := [nat64 c.lv, .bool c.cl, nat64 c.kp, .string c.id, .bool c.hw, .string c.wt, .string c.wx, nat64 c.wq, .bool c.wr, .bool c.hu, .string c.us, .bool c.hp, .string c.ps]
abbrev co0 : CoS := ⟨0, false, 0, ⟨#[]⟩, false, ⟨#[]⟩, ⟨#[]⟩, 0, false, false, ⟨#[]⟩, false, ⟨#[]⟩⟩
def coOf (l : List UInt8) : CoS := if (ofZ l).e = 0 then (if (of0 l).1 ≠ mqtt then co0 else if (of1 l).1 = 4 then ⟨(of1 l).1, bitB (rOne l (of1 l).2).1 2, (rs2 l (of1 l).2).1, (rs3 l (of1 l).2).1, bitB (rOne l (of1 l).2).1 4, (rs4 l (of1 l).2).1, (rs5 l (of1 l).2).1, (rOne l (of1 l).2).1 / 8 &&& 3, bitB (rOne l (of1 l).2).1 32, bitB (rOne l (of1 l).2).1 128, (rs6 l (of1 l).2).1, bitB (rOne l (of1 l).2).1 64, (rs7 l (of1 l).2).1⟩ else { co0 with lv := (of1 l).1 }) else co0
theorem ofV_co (l : List UInt8) : ofV l = .tuple #[.agg (coC (coOf l)).toArray, nat64 (ofZ l).e] := by
  unfold ofV coOf ofC
  split
  · split
    · rfl
    · split <;> rfl
  · rfl
abbrev pkC (kd : Nat) (c : CoS) : List Value := [nat64 kd, nat64 0, .bool false, .string mt0, .string mt0, nat64 0, .bool false, nat64 c.lv, .bool c.cl, nat64 c.kp, .string c.id, .bool c.hw, .string c.wt, .string c.wx, nat64 c.wq, .bool c.wr, .bool c.hu, .string c.us, .bool c.hp, .string c.ps, .bool false, nat64 0, .slice none 0 0, .slice none 0 0]
abbrev wrpI (w kd : Nat) (c : CoS) (s : ByteArray) : HProp := pts w (.cells (nat64 kd :: nat64 0 :: .bool false :: .string mt0 :: .string mt0 :: nat64 0 :: .bool false :: nat64 c.lv :: .bool c.cl :: nat64 c.kp :: .string c.id :: .bool c.hw :: .string c.wt :: .string c.wx :: nat64 c.wq :: .bool c.wr :: .bool c.hu :: .string c.us :: .bool c.hp :: .string c.ps :: .bool false :: nat64 0 :: .slice none 0 0 :: .slice none 0 0 :: nat64 0 :: [.string s]).toArray 274 (0, 0))
abbrev meth (f : FuncId) (w : Nat) : Value := .func (.func f) [pt0 w].toArray [].toArray
attribute [local irreducible] MidQ wpE wpO wpC qE wpQ wpQO wpH wpHO wpD wpDO wpZ Ev own emp exI sl ch PostS LoopQ Rd rowsAt
theorem pk_teller1 (w : Nat) (c : CoS) (s : ByteArray) : FnDoes Tryz.prog 144 [pt0 w] [wrpI w 1 c s] (fun _ : Unit => True) (fun _ => meth 203 w) (fun _ => [wrpI w 1 c s]) := by
  refine does_of Tryz.func144 rfl rfl Tryz.ntmps144 rfl eNUM (fun c => ?_)
  (refine go ?_; intros)
  refine o_evB (ev_makeFunc (vb := [pt0 w]) (vf := []) rfl rfl) ?_
  (refine go ?_; intros)
  exact q_ret1 rfl rfl () rfl trivial eNT
theorem pk_teller3 (w : Nat) (c : CoS) (s : ByteArray) : FnDoes Tryz.prog 144 [pt0 w] [wrpI w 3 c s] (fun _ : Unit => True) (fun _ => meth 205 w) (fun _ => [wrpI w 3 c s]) := by
  refine does_of Tryz.func144 rfl rfl Tryz.ntmps144 rfl eNUM (fun c => ?_)
  (refine go ?_; intros)
  refine o_evB (ev_makeFunc (vb := [pt0 w]) (vf := []) rfl rfl) ?_
  (refine go ?_; intros)
  exact q_ret1 rfl rfl () rfl trivial eNT
theorem pk_tellerN (w kd : Nat) (hk : kd = 12 ∨ kd = 14) (c : CoS) (s : ByteArray) : FnDoes Tryz.prog 144 [pt0 w] [wrpI w kd c s] (fun _ : Unit => True) (fun _ => meth 209 w) (fun _ => [wrpI w kd c s]) := by
  refine does_of Tryz.func144 rfl rfl Tryz.ntmps144 rfl eNUM (fun c => ?_)
  rcases hk with rfl | rfl
  all_goals
    (refine go ?_; intros)
    refine o_evB (ev_makeFunc (vb := [pt0 w]) (vf := []) rfl rfl) ?_
    (refine go ?_; intros)
    exact q_ret1 rfl rfl () rfl trivial eNT
theorem pk_ofNothing (w kd : Nat) (c : CoS) : FnDoes Tryz.prog 209 [pt0 w] [wrpI w kd c mt0] (fun _ : Unit => True) (fun _ => nat64 0) (fun _ => [wrpI w kd c mt0]) := by
  refine does_of Tryz.func209 rfl rfl Tryz.ntmps209 rfl eNUM (fun c => ?_)
  (refine go ?_; intros)
  exact q_ret1 rfl rfl () rfl trivial eNT
set_option maxHeartbeats 1000000 in
theorem pk_ofConnect {G : Rg} (hV : vG G) (w : Nat) (s : ByteArray) (hs : s.size ≤ 1000000) : FnDoes Tryz.prog 203 [pt0 w] [wrpI w 1 co0 s, rgH G] (fun _ : Unit => True) (fun _ => nat64 (ofZ s.data.toList).e) (fun _ => [wrpI w 1 (coOf s.data.toList) s, rgH G]) := by
  have ho := conn_of G.2 (hV G (Gr.refl _ _)) s (by omega)
  rw [ofV_co] at ho
  generalize coOf s.data.toList = cc at ho ⊢
  generalize (ofZ s.data.toList).e = e at ho ⊢
  refine does_of Tryz.func203 rfl rfl Tryz.ntmps203 rfl eNUM (fun c => ?_)
  (refine go ?_; intros)
  (show wpO _ _ ⟨_, .call _, _, _, _, _⟩ _ _ _ _ _ _; refine o_callA (ho) (fun _ _ => ?_); try simp only [List.cons_append, List.nil_append])
  (refine go ?_; intros)
  refine o_store_part (vs := coC cc) rfl rfl rfl rfl rfl rfl pK (by simp) rfl ?_
  (refine go ?_; intros)
  exact q_ret1 rfl rfl () rfl trivial eNT
theorem pu_leveled : FnDoes Tryz.prog 343 [nat64 0] [] (fun _ : Unit => True) (fun _ => .bool true) (fun _ => []) := by
  refine does_of Tryz.func343 rfl rfl Tryz.ntmps343 rfl eNUM (fun c => ?_)
  (refine go ?_; intros)
  exact q_ret1 rfl rfl () rfl trivial eNT
theorem hd_told {G : Rg} (hM : mayG G) : FnDoes Tryz.prog 270 [nat64 0] [rgH G] (fun _ : Unit => True) (fun _ => .tuple #[.bool false, nat64 0, .bool false]) (fun _ => [rgH G]) := by
  have hm := hd_message hM
  refine does_of Tryz.func270 rfl rfl Tryz.ntmps270 rfl eNUM (fun c => ?_)
  (refine go ?_; intros)
  (show wpO _ _ ⟨_, .call _, _, _, _, _⟩ _ _ _ _ _ _; refine o_callA (hm) (fun _ _ => ?_); try simp only [List.cons_append, List.nil_append])
  (refine go ?_; intros)
  rw [show (0 &&& 8 : Nat) = 0 from rfl]
  (refine go ?_; intros)
  refine o_evB (ev_shr (k := .i64) (m := 1) (r := 0) rfl rfl (by decide) rfl) ?_
  (refine go ?_; intros)
  rw [show (0 &&& 1 : Nat) = 0 from rfl]
  (refine go ?_; intros)
  exact q_ret3 rfl rfl rfl rfl () rfl trivial eNT
end Go.Proofs.YtnaabpfpldelmaaGreatDoor
set_option linter.unusedSimpArgs false
set_option linter.unusedVariables false
set_option maxRecDepth 20000
namespace Go.Proofs.YtnaabpfpldelmaaGreatDoor
open Go Go.Sx
abbrev zero1 : ByteArray := ⟨#[0]⟩
attribute [local irreducible] MidQ wpE wpO wpC qE wpQ wpQO wpH wpHO wpD wpDO wpZ Ev own emp exI sl ch PostS LoopQ Rd rowsAt
set_option maxHeartbeats 1000000 in
theorem pu_of {G : Rg} (hV : vG G) : FnDoes Tryz.prog 271 [.string zero1, nat64 0] [rgH G] (fun _ : Unit => True) (fun _ => .tuple #[.agg (msgC mt0 mt0 0 false).toArray, nat64 0, nat64 2]) (fun _ => [rgH G]) := by
  refine does_of Tryz.func271 rfl rfl Tryz.ntmps271 rfl eNUM (fun c => ?_)
  (refine go ?_; intro c4)
  (show wpO _ _ ⟨_, .call _, _, _, _, _⟩ _ _ _ _ _ _; refine o_callA (pu_leveled) (fun _ _ => ?_); try simp only [List.cons_append, List.nil_append])
  (refine go ?_; intros)
  refine o_bytesOf rfl rfl rfl rfl rfl (fun v => ?_)
  have hg := utf_get G.2 (hV G (Gr.refl _ _)) (X := bsI v [0]) (v := v) (l := [0]) Bs.ofBsI 0 (by simp) (by simp)
  rw [show getV [0] 0 = .tuple #[.string mt0, nat64 0, nat64 2] from rfl] at hg
  (refine go ?_; intros)
  (show wpO _ _ ⟨_, .call _, _, _, _, _⟩ _ _ _ _ _ _; refine o_callA (hg) (fun _ _ => ?_); try simp only [List.cons_append, List.nil_append])
  (refine go ?_; intros)
  exact q_retATT (l1 := msgC mt0 mt0 0 false) rfl rfl rfl rfl rfl rfl rfl rfl pK () rfl trivial eNT
set_option maxHeartbeats 1000000 in
theorem pk_ofPublish {G : Rg} (hM : mayG G) (hV : vG G) (w : Nat) : FnDoes Tryz.prog 205 [pt0 w] [wrpI w 3 co0 zero1, rgH G] (fun _ : Unit => True) (fun _ => nat64 2) (fun _ => [wrpI w 3 co0 zero1, rgH G]) := by
  have ht := hd_told hM
  have hp := pu_of hV
  refine does_of Tryz.func205 rfl rfl Tryz.ntmps205 rfl eNUM (fun c => ?_)
  (refine go ?_; intros)
  (show wpO _ _ ⟨_, .call _, _, _, _, _⟩ _ _ _ _ _ _; refine o_callA (ht) (fun _ _ => ?_); try simp only [List.cons_append, List.nil_append])
  (refine go ?_; intros)
  (show wpO _ _ ⟨_, .call _, _, _, _, _⟩ _ _ _ _ _ _; refine o_callA (hp) (fun _ _ => ?_); try simp only [List.cons_append, List.nil_append])
  (refine go ?_; intros)
  refine o_store_part (vs := msgC mt0 mt0 0 false) rfl rfl rfl rfl rfl rfl pK (by simp) rfl ?_
  (refine go ?_; intros)
  exact q_ret1 rfl rfl () rfl trivial eNT
abbrev pkE (kd : Nat) (c : CoS) (e : Nat) : Value := .tuple #[.agg (pkC kd c).toArray, nat64 e]
def pkV (kd : Nat) (c : CoS) (e : Nat) : Value := if e = 0 then pkE kd c 0 else pkE 0 co0 e
theorem pkV_ok (kd : Nat) (c : CoS) : pkV kd c 0 = pkE kd c 0 := rfl
theorem pkV_no (kd : Nat) (c : CoS) {e : Nat} (h : e ≠ 0) : pkV kd c e = pkE 0 co0 e := if_neg h
set_option maxHeartbeats 1000000 in
theorem pk_of1 {G : Rg} (hM : mayG G) (hV : vG G) (s : ByteArray) (hs : s.size ≤ 1000000) : FnDoes Tryz.prog 103 [.agg (rawC 1 s.size s).toArray] [rgH G] (fun _ : Unit => True) (fun _ => pkV 1 (coOf s.data.toList) (ofZ s.data.toList).e) (fun _ => [rgH G]) := by
  have hr := hd_right hM 1 (.inl rfl)
  have hc := fun w => pk_ofConnect hV w s hs
  generalize coOf s.data.toList = cc at hc ⊢
  generalize (ofZ s.data.toList).e = e at hc ⊢
  refine does_of Tryz.func103 rfl rfl Tryz.ntmps103 rfl eNUM (fun c => ?_)
  (refine go ?_; intro c1 c2)
  (show wpO _ _ ⟨_, .call _, _, _, _, _⟩ _ _ _ _ _ _; refine o_callA (hr) (fun _ _ => ?_); try simp only [List.cons_append, List.nil_append])
  (refine go ?_; intro w)
  (show wpO _ _ ⟨_, .call _, _, _, _, _⟩ _ _ _ _ _ _; refine o_callA (pk_teller1 w co0 s) (fun _ _ => ?_); try simp only [List.cons_append, List.nil_append])
  (refine go ?_; intros)
  refine o_callB (bd := [pt0 w]) (args := []) (fr := []) (hc w) (fun _ _ => ?_)
  simp only [List.cons_append, List.nil_append]
  by_cases he : e = 0
  · subst he
    (refine go ?_; intros)
    rw [pkV_ok]
    exact q_retAT (l1 := pkC 1 cc) rfl rfl rfl rfl rfl rfl rfl pK () rfl trivial eNT
  · have h1 : (e : Int) ≠ 0 := by omega
    (refine go ?_; intros)
    rw [pkV_no _ _ he]
    exact q_retAT (l1 := pkC 0 co0) rfl rfl rfl rfl rfl rfl rfl pK () rfl trivial eNT
set_option maxHeartbeats 1000000 in
theorem pk_ofN {G : Rg} (hM : mayG G) (kd : Nat) (hk : kd = 12 ∨ kd = 14) : FnDoes Tryz.prog 103 [.agg (rawC kd 0 mt0).toArray] [rgH G] (fun _ : Unit => True) (fun _ => pkE kd co0 0) (fun _ => [rgH G]) := by
  have hr := hd_right hM kd (by unfold kindOk; omega)
  have hz : mt0.size = 0 := rfl
  refine does_of Tryz.func103 rfl rfl Tryz.ntmps103 rfl eNUM (fun c => ?_)
  (refine go ?_; intro c1 c2)
  (show wpO _ _ ⟨_, .call _, _, _, _, _⟩ _ _ _ _ _ _; refine o_callA (hr) (fun _ _ => ?_); try simp only [List.cons_append, List.nil_append])
  (refine go ?_; intro w)
  (show wpO _ _ ⟨_, .call _, _, _, _, _⟩ _ _ _ _ _ _; refine o_callA (pk_tellerN w kd hk co0 mt0) (fun _ _ => ?_); try simp only [List.cons_append, List.nil_append])
  (refine go ?_; intros)
  refine o_callB (bd := [pt0 w]) (args := []) (fr := []) (pk_ofNothing w kd co0) (fun _ _ => ?_)
  simp only [List.cons_append, List.nil_append]
  (refine go ?_; intros)
  exact q_retAT (l1 := pkC kd co0) rfl rfl rfl rfl rfl rfl rfl pK () rfl trivial eNT
set_option maxHeartbeats 1000000 in
theorem pk_of3 {G : Rg} (hM : mayG G) (hV : vG G) : FnDoes Tryz.prog 103 [.agg (rawC 3 1 zero1).toArray] [rgH G] (fun _ : Unit => True) (fun _ => pkE 0 co0 2) (fun _ => [rgH G]) := by
  have hr := hd_right hM 3 (by unfold kindOk; omega)
  have hz : zero1.size = 1 := rfl
  have hc := fun w => pk_ofPublish hM hV w
  refine does_of Tryz.func103 rfl rfl Tryz.ntmps103 rfl eNUM (fun c => ?_)
  (refine go ?_; intro c1 c2)
  (show wpO _ _ ⟨_, .call _, _, _, _, _⟩ _ _ _ _ _ _; refine o_callA (hr) (fun _ _ => ?_); try simp only [List.cons_append, List.nil_append])
  (refine go ?_; intro w)
  (show wpO _ _ ⟨_, .call _, _, _, _, _⟩ _ _ _ _ _ _; refine o_callA (pk_teller3 w co0 zero1) (fun _ _ => ?_); try simp only [List.cons_append, List.nil_append])
  (refine go ?_; intros)
  refine o_callB (bd := [pt0 w]) (args := []) (fr := []) (hc w) (fun _ _ => ?_)
  simp only [List.cons_append, List.nil_append]
  (refine go ?_; intros)
  exact q_retAT (l1 := pkC 0 co0) rfl rfl rfl rfl rfl rfl rfl pK () rfl trivial eNT
end Go.Proofs.YtnaabpfpldelmaaGreatDoor
set_option linter.unusedSimpArgs false
set_option linter.unusedVariables false
set_option maxRecDepth 20000
namespace Go.Proofs.YtnaabpfpldelmaaGreatDoor
open Go Go.Sx
abbrev two0 : ByteArray := ⟨#[0, 0]⟩
attribute [local irreducible] MidQ wpE wpO wpC qE wpQ wpQO wpH wpHO wpD wpDO wpZ Ev own emp exI sl ch PostS LoopQ Rd rowsAt
set_option maxHeartbeats 1000000 in
theorem pk_clean (kd : Nat) (hk : kd = 2 ∨ kd = 13) : FnDoes Tryz.prog 321 [.agg (pkC kd co0).toArray] [] (fun _ : Unit => True) (fun _ => .agg (pkC kd co0).toArray) (fun _ => []) := by
  refine does_of Tryz.func321 rfl rfl Tryz.ntmps321 rfl eNUM (fun c => ?_)
  rcases hk with rfl | rfl
  focus
    (refine go ?_; intro c1 c2 c3)
    refine wpC_drawnA [pts c1 (.cells (pkC 2 co0).toArray 32 (0, 0))] 7 ?_
    ((first | refine dt 0 ?_ | refine dts 0 ?_); (first | refine dt 1 ?_ | refine dts 1 ?_); (first | refine dt 2 ?_ | refine dts 2 ?_); (first | refine dt 3 ?_ | refine dts 3 ?_); (first | refine df 4 ?_ | refine dfs 4 ?_))
    (refine wpD_effU 5 rfl rfl (by decide +kernel) rfl ?_; show OUL _ ⟨_, .store _ _ _, _, _, _, _⟩ _ _ _ _ _)
    refine x_store (by rfl) (by rfl) (by rfl) (by rfl) (by rfl) pK (Upd1.of (by decide +kernel)) ⟨eNT, ?_⟩
    ((first | refine df 6 ?_ | refine dfs 6 ?_))
    (refine wpD_lastU rfl rfl (by kernel_rfl) (by kernel_rfl) rfl ?_; show OUL _ ⟨_, .store _ _ _, _, _, _, _⟩ _ _ _ _ _)
    refine x_store (by rfl) (by rfl) (by rfl) (by rfl) (by rfl) pK (Upd1.of (by decide +kernel)) ?_
    (refine go ?_; intros)
    exact q_retCell (l := pkC 2 co0) rfl rfl rfl rfl rfl pK rfl () rfl trivial eNT
  focus
    (refine go ?_; intro c1 c2 c3)
    exact q_retCell (l := pkC 13 co0) rfl rfl rfl rfl rfl pK rfl () rfl trivial eNT
theorem pk_putter2 (w : Nat) (c : CoS) (s : ByteArray) : FnDoes Tryz.prog 322 [pt0 w] [wrpI w 2 c s] (fun _ : Unit => True) (fun _ => meth 405 w) (fun _ => [wrpI w 2 c s]) := by
  refine does_of Tryz.func322 rfl rfl Tryz.ntmps322 rfl eNUM (fun c => ?_)
  (refine go ?_; intros)
  refine o_evB (ev_makeFunc (vb := [pt0 w]) (vf := []) rfl rfl) ?_
  (refine go ?_; intros)
  exact q_ret1 rfl rfl () rfl trivial eNT
theorem pk_putter13 (w : Nat) (c : CoS) (s : ByteArray) : FnDoes Tryz.prog 322 [pt0 w] [wrpI w 13 c s] (fun _ : Unit => True) (fun _ => meth 411 w) (fun _ => [wrpI w 13 c s]) := by
  refine does_of Tryz.func322 rfl rfl Tryz.ntmps322 rfl eNUM (fun c => ?_)
  (refine go ?_; intros)
  refine o_evB (ev_makeFunc (vb := [pt0 w]) (vf := []) rfl rfl) ?_
  (refine go ?_; intros)
  exact q_ret1 rfl rfl () rfl trivial eNT
theorem pk_putNothing (w : Nat) : FnDoes Tryz.prog 411 [pt0 w] [] (fun _ : Unit => True) (fun _ => nat64 0) (fun _ => []) := by
  refine does_of Tryz.func411 rfl rfl Tryz.ntmps411 rfl eNUM (fun c => ?_)
  (refine go ?_; intros)
  exact q_ret1 rfl rfl () rfl trivial eNT
theorem co_bit : FnDoes Tryz.prog 431 [.bool false, nat64 1] [] (fun _ : Unit => True) (fun _ => nat64 0) (fun _ => []) := by
  refine does_of Tryz.func431 rfl rfl Tryz.ntmps431 rfl eNUM (fun c => ?_)
  (refine go ?_; intros)
  exact q_ret1 rfl rfl () rfl trivial eNT
theorem co_putAck : FnDoes Tryz.prog 342 [.bool false, nat64 0] [] (fun _ : Value => True) (fun v => .tuple #[v, nat64 0]) (fun v => [bytI v [0, 0]]) := by
  refine does_of Tryz.func342 rfl rfl Tryz.ntmps342 rfl eNUM (fun c => ?_)
  (refine go ?_; intros)
  (show wpO _ _ ⟨_, .call _, _, _, _, _⟩ _ _ _ _ _ _; refine o_callA (co_bit) (fun _ _ => ?_); try simp only [List.cons_append, List.nil_append])
  (refine go ?_; intros)
  refine o_buildSliceN (l := u8s [0, 0]) rfl rfl rfl rfl rfl rfl rfl rfl rfl (fun b => ?_)
  (refine go ?_; intros)
  exact q_ret2 rfl rfl rfl (.slice (some ⟨b, 0, none⟩) 2 2) rfl trivial (Ent.slClose (xs := u8s [0, 0]) (junk := []) pK rfl rfl (Nat.le_refl _) (by decide) rfl eNT)
theorem pk_lay (w kd : Nat) (v : Value) (hv : v.oneCell' = true) : FnDoes Tryz.prog 478 [pt0 w, v, nat64 0] [wrpI w kd co0 mt0, bytI v [0, 0]] (fun _ : Unit => True) (fun _ => nat64 0) (fun _ => [wrpI w kd co0 two0]) := by
  refine does_of Tryz.func478 rfl rfl Tryz.ntmps478 rfl eNUM (fun c => ?_)
  (refine go ?_; intros)
  refine o_evB (ev_str (l := [0, 0]) rfl rfl rfl rfl (Rd.ofSl (e := tU8)) pK) ?_
  (refine go ?_; intros)
  refine o_storeS rfl rfl rfl rfl rfl pK (by simp) ?_
  (refine go ?_; intros)
  exact q_ret1 rfl rfl () rfl trivial eNT
set_option maxHeartbeats 1000000 in
theorem pk_putConnack (w : Nat) : FnDoes Tryz.prog 405 [pt0 w] [wrpI w 2 co0 mt0] (fun _ : Unit => True) (fun _ => nat64 0) (fun _ => [wrpI w 2 co0 two0]) := by
  refine does_of Tryz.func405 rfl rfl Tryz.ntmps405 rfl eNUM (fun c => ?_)
  (refine go ?_; intros)
  refine wpC_drawnZ [wrpI w 2 co0 mt0] 14 2 14 ?_
  ((first | refine dt 0 ?_ | refine dts 0 ?_); (first | refine dt 1 ?_ | refine dts 1 ?_); (first | refine dt 2 ?_ | refine dts 2 ?_); (first | refine dt 3 ?_ | refine dts 3 ?_); (first | refine dt 4 ?_ | refine dts 4 ?_); (first | refine dt 5 ?_ | refine dts 5 ?_); (first | refine df 6 ?_ | refine dfs 6 ?_); (first | refine df 7 ?_ | refine dfs 7 ?_); (first | refine df 8 ?_ | refine dfs 8 ?_); (first | refine df 9 ?_ | refine dfs 9 ?_); (first | refine df 10 ?_ | refine dfs 10 ?_))
  refine dcall 11 co_putAck (fun v _ => ?_)
  simp only [List.cons_append, List.nil_append]
  refine wpD_fact (sl_one (v := v) .head) (fun o3 => ?_)
  ((first | refine dt 12 ?_ | refine dts 12 ?_); (first | refine df 13 ?_ | refine dfs 13 ?_))
  refine dz ?_
  refine zcall 14 (pk_lay w 2 v o3) (fun _ _ => ?_)
  simp only [List.cons_append, List.nil_append]
  (refine zf 15 ?_)
  refine zend ?_
  (refine go ?_; intros)
  exact q_ret1 rfl rfl () rfl trivial eNT
set_option maxHeartbeats 1000000 in
theorem pk_put2 {G : Rg} (hM : mayG G) : FnDoes Tryz.prog 251 [.agg (pkC 2 co0).toArray] [rgH G] (fun _ : Value => True) (fun v => .tuple #[v, nat64 0]) (fun v => [rgH G, bytI v [32, 2, 0, 0]]) := by
  have hc := pk_clean 2 (.inl rfl)
  have hh := hd_put hM 2 2 (.inl rfl) (by decide)
  have hz : two0.size = 2 := rfl
  have hb : Tryz.prog.types[5].bytes ≤ 1000 := by decide +kernel
  refine does_of Tryz.func251 rfl rfl Tryz.ntmps251 rfl eNUM (fun c => ?_)
  (refine go ?_; intro c1)
  (show wpO _ _ ⟨_, .call _, _, _, _, _⟩ _ _ _ _ _ _; refine o_callA (hc) (fun _ _ => ?_); try simp only [List.cons_append, List.nil_append])
  (refine go ?_; intro w)
  (show wpO _ _ ⟨_, .call _, _, _, _, _⟩ _ _ _ _ _ _; refine o_callA (pk_putter2 w co0 mt0) (fun _ _ => ?_); try simp only [List.cons_append, List.nil_append])
  (refine go ?_; intros)
  refine o_callB (bd := [pt0 w]) (args := []) (fr := []) (pk_putConnack w) (fun _ _ => ?_)
  simp only [List.cons_append, List.nil_append]
  (refine go ?_; intros)
  refine wpC_drawnA [pts c1 (.cells (pkC 2 co0).toArray 32 (0, 0)), wrpI w 2 co0 two0] 17 ?_
  ((first | refine dt 0 ?_ | refine dts 0 ?_); (first | refine dt 1 ?_ | refine dts 1 ?_); (first | refine dt 2 ?_ | refine dts 2 ?_); (first | refine dt 3 ?_ | refine dts 3 ?_); (first | refine dt 4 ?_ | refine dts 4 ?_); (first | refine dt 5 ?_ | refine dts 5 ?_); (first | refine df 6 ?_ | refine dfs 6 ?_); (first | refine df 7 ?_ | refine dfs 7 ?_); (first | refine df 8 ?_ | refine dfs 8 ?_); (first | refine df 9 ?_ | refine dfs 9 ?_); (first | refine df 10 ?_ | refine dfs 10 ?_); (first | refine df 11 ?_ | refine dfs 11 ?_))
  refine dcall 12 hh (fun v _ => ?_)
  simp only [List.cons_append, List.nil_append]
  refine wpD_fact (sl_one (v := v) (.tail .head)) (fun o3 => ?_)
  ((first | refine df 13 ?_ | refine dfs 13 ?_); (first | refine dt 14 ?_ | refine dts 14 ?_); (first | refine dt 15 ?_ | refine dts 15 ?_); (first | refine df 16 ?_ | refine dfs 16 ?_); refine dl ?_)
  (refine go ?_; intros)
  refine o_append (m := 2) (news := u8s [0, 0]) (sz := 1) rfl rfl rfl rfl rfl rfl rfl rfl pK (src_str rfl) ?_ rfl (fun v' => ?_)
  · dsimp only [List.length_cons, List.length_nil]
    have := Nat.mul_le_mul (Nat.le_refl 4) hb
    omega
  refine wpE_fact (sl_one (v := v') pK) (fun o4 => ?_)
  (refine go ?_; intros)
  exact q_ret2 rfl rfl rfl v' rfl trivial eNT
set_option maxHeartbeats 1000000 in
theorem pk_put13 {G : Rg} (hM : mayG G) : FnDoes Tryz.prog 251 [.agg (pkC 13 co0).toArray] [rgH G] (fun _ : Value => True) (fun v => .tuple #[v, nat64 0]) (fun v => [rgH G, bytI v [208, 0]]) := by
  have hc := pk_clean 13 (.inr rfl)
  have hh := hd_put hM 13 0 (.inr rfl) (by decide)
  have hz : mt0.size = 0 := rfl
  have hb : Tryz.prog.types[5].bytes ≤ 1000 := by decide +kernel
  refine does_of Tryz.func251 rfl rfl Tryz.ntmps251 rfl eNUM (fun c => ?_)
  (refine go ?_; intro c1)
  (show wpO _ _ ⟨_, .call _, _, _, _, _⟩ _ _ _ _ _ _; refine o_callA (hc) (fun _ _ => ?_); try simp only [List.cons_append, List.nil_append])
  (refine go ?_; intro w)
  (show wpO _ _ ⟨_, .call _, _, _, _, _⟩ _ _ _ _ _ _; refine o_callA (pk_putter13 w co0 mt0) (fun _ _ => ?_); try simp only [List.cons_append, List.nil_append])
  (refine go ?_; intros)
  refine o_callB (bd := [pt0 w]) (args := []) (fr := []) (pk_putNothing w) (fun _ _ => ?_)
  simp only [List.cons_append, List.nil_append]
  (refine go ?_; intros)
  refine wpC_drawnA [pts c1 (.cells (pkC 13 co0).toArray 32 (0, 0)), wrpI w 13 co0 mt0] 17 ?_
  ((first | refine dt 0 ?_ | refine dts 0 ?_); (first | refine dt 1 ?_ | refine dts 1 ?_); (first | refine dt 2 ?_ | refine dts 2 ?_); (first | refine dt 3 ?_ | refine dts 3 ?_); (first | refine dt 4 ?_ | refine dts 4 ?_); (first | refine dt 5 ?_ | refine dts 5 ?_); (first | refine df 6 ?_ | refine dfs 6 ?_); (first | refine df 7 ?_ | refine dfs 7 ?_); (first | refine df 8 ?_ | refine dfs 8 ?_); (first | refine df 9 ?_ | refine dfs 9 ?_); (first | refine df 10 ?_ | refine dfs 10 ?_); (first | refine df 11 ?_ | refine dfs 11 ?_))
  refine dcall 12 hh (fun v _ => ?_)
  simp only [List.cons_append, List.nil_append]
  refine wpD_fact (sl_one (v := v) (.tail .head)) (fun o3 => ?_)
  ((first | refine df 13 ?_ | refine dfs 13 ?_); (first | refine dt 14 ?_ | refine dts 14 ?_); (first | refine dt 15 ?_ | refine dts 15 ?_); (first | refine df 16 ?_ | refine dfs 16 ?_); refine dl ?_)
  (refine go ?_; intros)
  refine o_append (m := 0) (news := u8s []) (sz := 1) rfl rfl rfl rfl rfl rfl rfl rfl pK (src_str rfl) ?_ rfl (fun v' => ?_)
  · dsimp only [List.length_cons, List.length_nil]
    have := Nat.mul_le_mul (Nat.le_refl 2) hb
    omega
  refine wpE_fact (sl_one (v := v') pK) (fun o4 => ?_)
  (refine go ?_; intros)
  exact q_ret2 rfl rfl rfl v' rfl trivial eNT
end Go.Proofs.YtnaabpfpldelmaaGreatDoor
