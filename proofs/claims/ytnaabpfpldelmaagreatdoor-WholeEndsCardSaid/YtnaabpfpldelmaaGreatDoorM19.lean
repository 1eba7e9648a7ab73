/-
  Metrics, read: a metric's taker, field by field.
  Metrics, read: what is read at all; templates and parameters.
-/
import Derived.Test.YtnaabpfpldelmaaGreatDoorM17
set_option linter.unusedSimpArgs false
set_option linter.unusedVariables false
set_option maxRecDepth 20000
namespace Go.Proofs.YtnaabpfpldelmaaGreatDoor
open Go Go.Sx
structure MtkS where
  name : ByteArray
  ha : Bool
  al : Int
  c3 : Value
  c4 : Value
  c5 : Value
  c6 : Value
  nu : Bool
  c8 : Value
  c9 : Value
  vk : Int
  vn : Int
  c12 : Value
  c13 : Value
  c14 : Value
  mt : ByteArray
  told : Bool
  props : ByteArray
  big : ByteArray
structure MtkOk (s : MtkS) : Prop where
  name : s.name.size ≤ 65536
  al : inK .u64 s.al
  c3 : s.c3.oneCell' = true
  c4 : s.c4.oneCell' = true
  c5 : s.c5.oneCell' = true
  c6 : s.c6.oneCell' = true
  c8 : s.c8.oneCell' = true
  c9 : s.c9.oneCell' = true
  vk : 0 ≤ s.vk ∧ s.vk ≤ 9
  vn : inK .u64 s.vn
  c12 : s.c12.oneCell' = true
  c13 : s.c13.oneCell' = true
  c14 : s.c14.oneCell' = true
  mt : s.mt.size ≤ 65536
  props : s.props.size ≤ 65536
  big : s.big.size ≤ 65536
abbrev mtrC (s : MtkS) : List Value := [.string s.name, .bool s.ha, .int .u64 s.al, s.c3, s.c4, s.c5, s.c6, .bool s.nu, s.c8, s.c9, .int .i64 s.vk, .int .u64 s.vn, s.c12, s.c13, s.c14]
abbrev mtkC (s : MtkS) : List Value := [.string s.name, .bool s.ha, .int .u64 s.al, s.c3, s.c4, s.c5, s.c6, .bool s.nu, s.c8, s.c9, .int .i64 s.vk, .int .u64 s.vn, s.c12, s.c13, s.c14, .string s.mt, .bool s.told, .string s.props, .string s.big]
abbrev mtkI (r : Nat) (s : MtkS) : HProp := pts r (.cells (mtkC s).toArray 598 (0, 0))
attribute [local irreducible] MidQ wpE wpO wpC qE wpQ wpQO wpH wpHO wpD wpDO wpZ Ev own emp exI sl ch PostS LoopQ Rd rowsAt
theorem mt_number (x y z : Int) (s : ByteArray) (m : Int) : FnDoes Tryz.prog 674 [.agg (fldC x y z s).toArray, .int .u64 m] [] (fun p : Int × Nat => p.1 = 0 ∨ p.1 = z ∧ z ≤ m) (fun p => .tuple #[.int .u64 p.1, nat64 p.2]) (fun _ => []) := by
  refine does_of Tryz.func674 rfl rfl Tryz.ntmps674 rfl eNUM (fun c => ?_)
  by_cases hk : y = 0
  · by_cases hz : z > m
    · (refine go ?_; intros)
      exact q_ret2 rfl rfl rfl (0, 5) rfl (.inl rfl) eNT
    · (refine go ?_; intros)
      exact q_ret2 rfl rfl rfl (z, 0) rfl (.inr ⟨rfl, by omega⟩) eNT
  · (refine go ?_; intros)
    exact q_ret2 rfl rfl rfl (0, 4) rfl (.inl rfl) eNT
theorem mt_text (p k : Nat) (C : List Value) (T : TypeId) (hk : k < C.length) (x y z : Int) (s : ByteArray) : FnDoes Tryz.prog 666 [.agg (fldC x y z s).toArray, pk p k] [pts p (.cells C.toArray T (0, 0))] (fun w : Value × Nat => w.1 = .string s ∨ C[k]? = some w.1) (fun w => nat64 w.2) (fun w => [pts p (.cells (C.set k w.1).toArray T (0, 0))]) := by
  refine does_of Tryz.func666 rfl rfl Tryz.ntmps666 rfl eNUM (fun c => ?_)
  by_cases hy : y = 2
  · (refine go ?_; intros)
    exact q_ret1 rfl rfl (.string s, 0) rfl (.inl rfl) eNT
  · (refine go ?_; intros)
    exact q_ret1 rfl rfl (C[k], 4) rfl (.inr (List.getElem?_eq_getElem hk)) (by rw [List.set_getElem_self hk]; ((try simp only [List.cons_append, List.nil_append]); repeat (first | exact Ent.nil | (apply Ent.cons; repeat (first | exact Pick.head | apply Pick.tail)))))
theorem mt_flag (p k : Nat) (C : List Value) (T : TypeId) (hk : k < C.length) (x y z : Int) (s : ByteArray) : FnDoes Tryz.prog 669 [.agg (fldC x y z s).toArray, pk p k] [pts p (.cells C.toArray T (0, 0))] (fun w : Value × Nat => (∃ b, w.1 = .bool b) ∨ C[k]? = some w.1) (fun w => nat64 w.2) (fun w => [pts p (.cells (C.set k w.1).toArray T (0, 0))]) := by
  refine does_of Tryz.func669 rfl rfl Tryz.ntmps669 rfl eNUM (fun c => ?_)
  (refine go ?_; intros)
  (show wpO _ _ ⟨_, .call _, _, _, _, _⟩ _ _ _ _ _ _; refine o_callA (mt_number x y z s 1) (fun ⟨m, e⟩ hm => ?_); try simp only [List.cons_append, List.nil_append])
  try dsimp only at hm ⊢
  by_cases he : e = 0
  · subst he
    by_cases m1 : m = 1
    · (refine go ?_; intros)
      exact q_ret1 rfl rfl (.bool true, 0) rfl (.inl ⟨_, rfl⟩) eNT
    · (refine go ?_; intros)
      exact q_ret1 rfl rfl (.bool false, 0) rfl (.inl ⟨_, rfl⟩) eNT
  · have he' : (e : Int) ≠ 0 := by omega
    (refine go ?_; intros)
    exact q_ret1 rfl rfl (C[k], e) rfl (.inr (List.getElem?_eq_getElem hk)) (by rw [List.set_getElem_self hk]; ((try simp only [List.cons_append, List.nil_append]); repeat (first | exact Ent.nil | (apply Ent.cons; repeat (first | exact Pick.head | apply Pick.tail)))))
theorem mt_short (p k : Nat) (C : List Value) (T : TypeId) (hk : k < C.length) (x y z : Int) (s : ByteArray) : FnDoes Tryz.prog 668 [.agg (fldC x y z s).toArray, pk p k] [pts p (.cells C.toArray T (0, 0))] (fun w : Value × Nat => (∃ b, w.1 = .int .u32 b) ∨ C[k]? = some w.1) (fun w => nat64 w.2) (fun w => [pts p (.cells (C.set k w.1).toArray T (0, 0))]) := by
  refine does_of Tryz.func668 rfl rfl Tryz.ntmps668 rfl eNUM (fun c => ?_)
  (refine go ?_; intros)
  (show wpO _ _ ⟨_, .call _, _, _, _, _⟩ _ _ _ _ _ _; refine o_callA (mt_number x y z s 4294967295) (fun ⟨m, e⟩ hm => ?_); try simp only [List.cons_append, List.nil_append])
  try dsimp only at hm ⊢
  by_cases he : e = 0
  · subst he
    (refine go ?_; intros)
    refine o_evI (ev_conv_int rfl rfl rfl rfl) (wrap_in _ _) (fun c1 hc1 => ?_)
    (refine go ?_; intros)
    exact q_ret1 rfl rfl (.int .u32 c1, 0) rfl (.inl ⟨_, rfl⟩) eNT
  · have he' : (e : Int) ≠ 0 := by omega
    (refine go ?_; intros)
    exact q_ret1 rfl rfl (C[k], e) rfl (.inr (List.getElem?_eq_getElem hk)) (by rw [List.set_getElem_self hk]; ((try simp only [List.cons_append, List.nil_append]); repeat (first | exact Ent.nil | (apply Ent.cons; repeat (first | exact Pick.head | apply Pick.tail)))))
theorem mt_long (p k : Nat) (C : List Value) (T : TypeId) (hk : k < C.length) (x y z : Int) (s : ByteArray) (hz : inK .u64 z) : FnDoes Tryz.prog 667 [.agg (fldC x y z s).toArray, pk p k] [pts p (.cells C.toArray T (0, 0))] (fun w : Value × Nat => (∃ b, w.1 = .int .u64 b ∧ inK .u64 b) ∨ C[k]? = some w.1) (fun w => nat64 w.2) (fun w => [pts p (.cells (C.set k w.1).toArray T (0, 0))]) := by
  refine does_of Tryz.func667 rfl rfl Tryz.ntmps667 rfl eNUM (fun c => ?_)
  (refine go ?_; intros)
  (show wpO _ _ ⟨_, .call _, _, _, _, _⟩ _ _ _ _ _ _; refine o_callA (mt_number x y z s 18446744073709551615) (fun ⟨m, e⟩ hm => ?_); try simp only [List.cons_append, List.nil_append])
  try dsimp only at hm ⊢
  have hm2 : inK .u64 m := by
    rcases hm with rfl | ⟨rfl, _⟩
    · exact inK0 _
    · exact hz
  by_cases he : e = 0
  · subst he
    (refine go ?_; intros)
    exact q_ret1 rfl rfl (.int .u64 m, 0) rfl (.inl ⟨_, rfl, hm2⟩) eNT
  · have he' : (e : Int) ≠ 0 := by omega
    (refine go ?_; intros)
    exact q_ret1 rfl rfl (C[k], e) rfl (.inr (List.getElem?_eq_getElem hk)) (by rw [List.set_getElem_self hk]; ((try simp only [List.cons_append, List.nil_append]); repeat (first | exact Ent.nil | (apply Ent.cons; repeat (first | exact Pick.head | apply Pick.tail)))))
set_option maxHeartbeats 1000000 in
theorem mt_plain {G : Rg} (hK : knG G) (r : Nat) (w : MtkS) (hw : MtkOk w) (x y z : Int) (s : ByteArray) (hf : FldP x y z s) : FnDoes Tryz.prog 670 [pt0 r, .agg (fldC x y z s).toArray] [mtkI r w, rgH G]
    (fun q : MtkS × Nat => MtkOk q.1) (fun q => nat64 q.2) (fun q => [mtkI r q.1, rgH G]) := by
  obtain ⟨n0, h1, a2, c3, c4, c5, c6, u7, c8, c9, k10, n11, c12, c13, c14, t15, d16, t17, t18⟩ := w
  have hw' := hw
  obtain ⟨o0, o2, o3, o4, o5, o6, o8, o9, o10, o11, o12, o13, o14, o15, o17, o18⟩ := hw'
  try dsimp only at o0 o2 o3 o4 o5 o6 o8 o9 o10 o11 o12 o13 o14 o15 o17 o18 ⊢
  refine does_of Tryz.func670 rfl rfl Tryz.ntmps670 rfl eNUM (fun c => ?_)
  (refine go ?_; intro b bb)
  have hX : Rd (pts bb (.cells (fldC x y z s).toArray 363 (0, 0))) 4 (.slice (some ⟨bb, 0, none⟩) 1 1) 1 (fldC x y z s) := Rd.ofPts rfl rfl (by decide)
  have hc := va_of (G := G) hK hX (fld_one hf) (by decide) 10 ⟨by decide, by decide⟩ true
  (show wpO _ _ ⟨_, .call _, _, _, _, _⟩ _ _ _ _ _ _; refine o_callA (hc) (fun ⟨kn, nn, t, e⟩ hv => ?_); try simp only [List.cons_append, List.nil_append])
  try dsimp only at hv ⊢
  by_cases he : e = 0
  · subst he
    by_cases hk0 : (kn : Int) = 0
    · (refine go ?_; intros)
      exact q_ret1 rfl rfl (⟨n0, h1, a2, c3, c4, c5, c6, u7, c8, c9, k10, n11, c12, c13, c14, t15, d16, t17, t18⟩, 0) rfl hw eNT
    · (refine go ?_; intros)
      refine o_store_part (vs := valC kn nn t) rfl rfl rfl rfl rfl rfl pK (by simp) rfl ?_
      (refine go ?_; intros)
      exact q_ret1 rfl rfl (⟨n0, h1, a2, c3, c4, c5, c6, u7, c8, c9, kn, nn, .string t, c13, c14, t15, d16, t17, t18⟩, 0) rfl ⟨o0, o2, o3, o4, o5, o6, o8, o9, ⟨by dsimp only; omega, by have := hv.1; dsimp only; omega⟩, hv.2.1, rfl, o13, o14, o15, o17, o18⟩ eNT
  · have he' : (e : Int) ≠ 0 := by omega
    (refine go ?_; intros)
    exact q_ret1 rfl rfl (⟨n0, h1, a2, c3, c4, c5, c6, u7, c8, c9, k10, n11, c12, c13, c14, t15, d16, t17, t18⟩, e) rfl hw eNT
set_option maxHeartbeats 4000000 in
theorem mt_take {G : Rg} (hK : knG G) (r : Nat) (w : MtkS) (hw : MtkOk w) (x y z : Int) (s : ByteArray) (hf : FldP x y z s) : FnDoes Tryz.prog 662 [pt0 r, .agg (fldC x y z s).toArray] [mtkI r w, rgH G]
    (fun q : MtkS × Nat => MtkOk q.1) (fun q => nat64 q.2) (fun q => [mtkI r q.1, rgH G]) := by
  obtain ⟨n0, h1, a2, c3, c4, c5, c6, u7, c8, c9, k10, n11, c12, c13, c14, t15, d16, t17, t18⟩ := w
  have hw' := hw
  obtain ⟨o0, o2, o3, o4, o5, o6, o8, o9, o10, o11, o12, o13, o14, o15, o17, o18⟩ := hw'
  try dsimp only at o0 o2 o3 o4 o5 o6 o8 o9 o10 o11 o12 o13 o14 o15 o17 o18 ⊢
  have hs := hf.2.2.2
  have hz := hf.2.2.1
  refine does_of Tryz.func662 rfl rfl Tryz.ntmps662 rfl eNUM (fun c => ?_)
  by_cases e1 : x = 1
  · (refine go ?_; intro b)
    refine wpC_drawnA [pts b (.cells (fldC x y z s).toArray 363 (0, 0))] 6 ?_
    ((first | refine dt 0 ?_ | refine dts 0 ?_); (first | refine df 1 ?_ | refine dfs 1 ?_); (first | refine df 2 ?_ | refine dfs 2 ?_); (first | refine df 3 ?_ | refine dfs 3 ?_); (first | refine df 4 ?_ | refine dfs 4 ?_))
    refine dcall 5 (mt_text r 0 (mtkC ⟨n0, h1, a2, c3, c4, c5, c6, u7, c8, c9, k10, n11, c12, c13, c14, t15, d16, t17, t18⟩) 598 (by simp) x y z s) (fun q hq => ?_)
    obtain ⟨w, e⟩ := q
    try dsimp only at hq ⊢
    simp only [List.cons_append, List.nil_append]
    (refine dl ?_)
    rcases hq with rfl | hq
    · (refine go ?_; intros)
      exact q_ret1 rfl rfl (⟨s, h1, a2, c3, c4, c5, c6, u7, c8, c9, k10, n11, c12, c13, c14, t15, d16, t17, t18⟩, e) rfl ⟨hs, o2, o3, o4, o5, o6, o8, o9, o10, o11, o12, o13, o14, o15, o17, o18⟩ eNT
    · cases hq
      (refine go ?_; intros)
      exact q_ret1 rfl rfl (⟨n0, h1, a2, c3, c4, c5, c6, u7, c8, c9, k10, n11, c12, c13, c14, t15, d16, t17, t18⟩, e) rfl ⟨o0, o2, o3, o4, o5, o6, o8, o9, o10, o11, o12, o13, o14, o15, o17, o18⟩ eNT
  by_cases e2 : x = 2
  · (refine go ?_; intro b)
    refine wpC_drawnA [pts b (.cells (fldC x y z s).toArray 363 (0, 0))] 6 ?_
    ((first | refine dt 0 ?_ | refine dts 0 ?_); (first | refine df 1 ?_ | refine dfs 1 ?_); (first | refine df 2 ?_ | refine dfs 2 ?_); (first | refine df 3 ?_ | refine dfs 3 ?_); (first | refine df 4 ?_ | refine dfs 4 ?_))
    refine dcall 5 (mt_long r 2 (mtkC ⟨n0, true, a2, c3, c4, c5, c6, u7, c8, c9, k10, n11, c12, c13, c14, t15, d16, t17, t18⟩) 598 (by simp) x y z s hz) (fun q hq => ?_)
    obtain ⟨w, e⟩ := q
    try dsimp only at hq ⊢
    simp only [List.cons_append, List.nil_append]
    (refine dl ?_)
    rcases hq with ⟨nb, rfl, hnb⟩ | hq
    · (refine go ?_; intros)
      exact q_ret1 rfl rfl (⟨n0, true, nb, c3, c4, c5, c6, u7, c8, c9, k10, n11, c12, c13, c14, t15, d16, t17, t18⟩, e) rfl ⟨o0, hnb, o3, o4, o5, o6, o8, o9, o10, o11, o12, o13, o14, o15, o17, o18⟩ eNT
    · cases hq
      (refine go ?_; intros)
      exact q_ret1 rfl rfl (⟨n0, true, a2, c3, c4, c5, c6, u7, c8, c9, k10, n11, c12, c13, c14, t15, d16, t17, t18⟩, e) rfl ⟨o0, o2, o3, o4, o5, o6, o8, o9, o10, o11, o12, o13, o14, o15, o17, o18⟩ eNT
  by_cases e3 : x = 3
  · (refine go ?_; intro b)
    refine wpC_drawnA [pts b (.cells (fldC x y z s).toArray 363 (0, 0))] 6 ?_
    ((first | refine dt 0 ?_ | refine dts 0 ?_); (first | refine df 1 ?_ | refine dfs 1 ?_); (first | refine df 2 ?_ | refine dfs 2 ?_); (first | refine df 3 ?_ | refine dfs 3 ?_); (first | refine df 4 ?_ | refine dfs 4 ?_))
    refine dcall 5 (mt_long r 3 (mtkC ⟨n0, h1, a2, c3, c4, c5, c6, u7, c8, c9, k10, n11, c12, c13, c14, t15, d16, t17, t18⟩) 598 (by simp) x y z s hz) (fun q hq => ?_)
    obtain ⟨w, e⟩ := q
    try dsimp only at hq ⊢
    simp only [List.cons_append, List.nil_append]
    (refine dl ?_)
    rcases hq with ⟨nb, rfl, hnb⟩ | hq
    · (refine go ?_; intros)
      exact q_ret1 rfl rfl (⟨n0, h1, a2, .int .u64 nb, c4, c5, c6, u7, c8, c9, k10, n11, c12, c13, c14, t15, d16, t17, t18⟩, e) rfl ⟨o0, o2, rfl, o4, o5, o6, o8, o9, o10, o11, o12, o13, o14, o15, o17, o18⟩ eNT
    · cases hq
      (refine go ?_; intros)
      exact q_ret1 rfl rfl (⟨n0, h1, a2, c3, c4, c5, c6, u7, c8, c9, k10, n11, c12, c13, c14, t15, d16, t17, t18⟩, e) rfl ⟨o0, o2, o3, o4, o5, o6, o8, o9, o10, o11, o12, o13, o14, o15, o17, o18⟩ eNT
  by_cases e4 : x = 4
  · (refine go ?_; intro b)
    refine wpC_drawnA [pts b (.cells (fldC x y z s).toArray 363 (0, 0))] 6 ?_
    ((first | refine dt 0 ?_ | refine dts 0 ?_); (first | refine df 1 ?_ | refine dfs 1 ?_); (first | refine df 2 ?_ | refine dfs 2 ?_); (first | refine df 3 ?_ | refine dfs 3 ?_); (first | refine df 4 ?_ | refine dfs 4 ?_))
    refine dcall 5 (mt_short r 4 (mtkC ⟨n0, h1, a2, c3, c4, c5, c6, u7, c8, c9, k10, n11, c12, c13, c14, t15, d16, t17, t18⟩) 598 (by simp) x y z s) (fun q hq => ?_)
    obtain ⟨w, e⟩ := q
    try dsimp only at hq ⊢
    simp only [List.cons_append, List.nil_append]
    (refine dl ?_)
    rcases hq with ⟨nb, rfl⟩ | hq
    · (refine go ?_; intros)
      exact q_ret1 rfl rfl (⟨n0, h1, a2, c3, .int .u32 nb, c5, c6, u7, c8, c9, k10, n11, c12, c13, c14, t15, d16, t17, t18⟩, e) rfl ⟨o0, o2, o3, rfl, o5, o6, o8, o9, o10, o11, o12, o13, o14, o15, o17, o18⟩ eNT
    · cases hq
      (refine go ?_; intros)
      exact q_ret1 rfl rfl (⟨n0, h1, a2, c3, c4, c5, c6, u7, c8, c9, k10, n11, c12, c13, c14, t15, d16, t17, t18⟩, e) rfl ⟨o0, o2, o3, o4, o5, o6, o8, o9, o10, o11, o12, o13, o14, o15, o17, o18⟩ eNT
  by_cases e5 : x = 5
  · (refine go ?_; intro b)
    refine wpC_drawnA [pts b (.cells (fldC x y z s).toArray 363 (0, 0))] 6 ?_
    ((first | refine dt 0 ?_ | refine dts 0 ?_); (first | refine df 1 ?_ | refine dfs 1 ?_); (first | refine df 2 ?_ | refine dfs 2 ?_); (first | refine df 3 ?_ | refine dfs 3 ?_); (first | refine df 4 ?_ | refine dfs 4 ?_))
    refine dcall 5 (mt_flag r 5 (mtkC ⟨n0, h1, a2, c3, c4, c5, c6, u7, c8, c9, k10, n11, c12, c13, c14, t15, d16, t17, t18⟩) 598 (by simp) x y z s) (fun q hq => ?_)
    obtain ⟨w, e⟩ := q
    try dsimp only at hq ⊢
    simp only [List.cons_append, List.nil_append]
    (refine dl ?_)
    rcases hq with ⟨nb, rfl⟩ | hq
    · (refine go ?_; intros)
      exact q_ret1 rfl rfl (⟨n0, h1, a2, c3, c4, .bool nb, c6, u7, c8, c9, k10, n11, c12, c13, c14, t15, d16, t17, t18⟩, e) rfl ⟨o0, o2, o3, o4, rfl, o6, o8, o9, o10, o11, o12, o13, o14, o15, o17, o18⟩ eNT
    · cases hq
      (refine go ?_; intros)
      exact q_ret1 rfl rfl (⟨n0, h1, a2, c3, c4, c5, c6, u7, c8, c9, k10, n11, c12, c13, c14, t15, d16, t17, t18⟩, e) rfl ⟨o0, o2, o3, o4, o5, o6, o8, o9, o10, o11, o12, o13, o14, o15, o17, o18⟩ eNT
  by_cases e6 : x = 6
  · (refine go ?_; intro b)
    refine wpC_drawnA [pts b (.cells (fldC x y z s).toArray 363 (0, 0))] 6 ?_
    ((first | refine dt 0 ?_ | refine dts 0 ?_); (first | refine df 1 ?_ | refine dfs 1 ?_); (first | refine df 2 ?_ | refine dfs 2 ?_); (first | refine df 3 ?_ | refine dfs 3 ?_); (first | refine df 4 ?_ | refine dfs 4 ?_))
    refine dcall 5 (mt_flag r 6 (mtkC ⟨n0, h1, a2, c3, c4, c5, c6, u7, c8, c9, k10, n11, c12, c13, c14, t15, d16, t17, t18⟩) 598 (by simp) x y z s) (fun q hq => ?_)
    obtain ⟨w, e⟩ := q
    try dsimp only at hq ⊢
    simp only [List.cons_append, List.nil_append]
    (refine dl ?_)
    rcases hq with ⟨nb, rfl⟩ | hq
    · (refine go ?_; intros)
      exact q_ret1 rfl rfl (⟨n0, h1, a2, c3, c4, c5, .bool nb, u7, c8, c9, k10, n11, c12, c13, c14, t15, d16, t17, t18⟩, e) rfl ⟨o0, o2, o3, o4, o5, rfl, o8, o9, o10, o11, o12, o13, o14, o15, o17, o18⟩ eNT
    · cases hq
      (refine go ?_; intros)
      exact q_ret1 rfl rfl (⟨n0, h1, a2, c3, c4, c5, c6, u7, c8, c9, k10, n11, c12, c13, c14, t15, d16, t17, t18⟩, e) rfl ⟨o0, o2, o3, o4, o5, o6, o8, o9, o10, o11, o12, o13, o14, o15, o17, o18⟩ eNT
  by_cases e7 : x = 7
  · (refine go ?_; intro b)
    refine wpC_drawnA [pts b (.cells (fldC x y z s).toArray 363 (0, 0))] 6 ?_
    ((first | refine dt 0 ?_ | refine dts 0 ?_); (first | refine df 1 ?_ | refine dfs 1 ?_); (first | refine df 2 ?_ | refine dfs 2 ?_); (first | refine df 3 ?_ | refine dfs 3 ?_); (first | refine df 4 ?_ | refine dfs 4 ?_))
    refine dcall 5 (mt_flag r 7 (mtkC ⟨n0, h1, a2, c3, c4, c5, c6, u7, c8, c9, k10, n11, c12, c13, c14, t15, d16, t17, t18⟩) 598 (by simp) x y z s) (fun q hq => ?_)
    obtain ⟨w, e⟩ := q
    try dsimp only at hq ⊢
    simp only [List.cons_append, List.nil_append]
    (refine dl ?_)
    rcases hq with ⟨nb, rfl⟩ | hq
    · (refine go ?_; intros)
      exact q_ret1 rfl rfl (⟨n0, h1, a2, c3, c4, c5, c6, nb, c8, c9, k10, n11, c12, c13, c14, t15, d16, t17, t18⟩, e) rfl ⟨o0, o2, o3, o4, o5, o6, o8, o9, o10, o11, o12, o13, o14, o15, o17, o18⟩ eNT
    · cases hq
      (refine go ?_; intros)
      exact q_ret1 rfl rfl (⟨n0, h1, a2, c3, c4, c5, c6, u7, c8, c9, k10, n11, c12, c13, c14, t15, d16, t17, t18⟩, e) rfl ⟨o0, o2, o3, o4, o5, o6, o8, o9, o10, o11, o12, o13, o14, o15, o17, o18⟩ eNT
  by_cases e8 : x = 8
  · (refine go ?_; intro b)
    refine o_storeS rfl rfl rfl rfl rfl pK (by simp) ?_
    (refine go ?_; intros)
    refine wpC_drawnA [pts b (.cells (fldC x y z s).toArray 363 (0, 0))] 5 ?_
    ((first | refine dt 0 ?_ | refine dts 0 ?_); (first | refine df 1 ?_ | refine dfs 1 ?_); (first | refine df 2 ?_ | refine dfs 2 ?_); (first | refine df 3 ?_ | refine dfs 3 ?_))
    refine dcall 4 (mt_text r 15 (mtkC ⟨n0, h1, a2, c3, c4, c5, c6, u7, c8, c9, k10, n11, c12, c13, c14, t15, true, t17, t18⟩) 598 (by simp) x y z s) (fun q hq => ?_)
    obtain ⟨w, e⟩ := q
    try dsimp only at hq ⊢
    simp only [List.cons_append, List.nil_append]
    (refine dl ?_)
    rcases hq with rfl | hq
    · (refine go ?_; intros)
      exact q_ret1 rfl rfl (⟨n0, h1, a2, c3, c4, c5, c6, u7, c8, c9, k10, n11, c12, c13, c14, s, true, t17, t18⟩, e) rfl ⟨o0, o2, o3, o4, o5, o6, o8, o9, o10, o11, o12, o13, o14, hs, o17, o18⟩ eNT
    · cases hq
      (refine go ?_; intros)
      exact q_ret1 rfl rfl (⟨n0, h1, a2, c3, c4, c5, c6, u7, c8, c9, k10, n11, c12, c13, c14, t15, true, t17, t18⟩, e) rfl ⟨o0, o2, o3, o4, o5, o6, o8, o9, o10, o11, o12, o13, o14, o15, o17, o18⟩ eNT
  by_cases e9 : x = 9
  · (refine go ?_; intro b)
    refine wpC_drawnA [pts b (.cells (fldC x y z s).toArray 363 (0, 0))] 5 ?_
    ((first | refine dt 0 ?_ | refine dts 0 ?_); (first | refine df 1 ?_ | refine dfs 1 ?_); (first | refine df 2 ?_ | refine dfs 2 ?_); (first | refine df 3 ?_ | refine dfs 3 ?_))
    refine dcall 4 (mt_text r 17 (mtkC ⟨n0, h1, a2, c3, c4, c5, c6, u7, c8, c9, k10, n11, c12, c13, c14, t15, d16, t17, t18⟩) 598 (by simp) x y z s) (fun q hq => ?_)
    obtain ⟨w, e⟩ := q
    try dsimp only at hq ⊢
    simp only [List.cons_append, List.nil_append]
    (refine dl ?_)
    rcases hq with rfl | hq
    · (refine go ?_; intros)
      exact q_ret1 rfl rfl (⟨n0, h1, a2, c3, c4, c5, c6, u7, c8, c9, k10, n11, c12, c13, c14, t15, d16, s, t18⟩, e) rfl ⟨o0, o2, o3, o4, o5, o6, o8, o9, o10, o11, o12, o13, o14, o15, hs, o18⟩ eNT
    · cases hq
      (refine go ?_; intros)
      exact q_ret1 rfl rfl (⟨n0, h1, a2, c3, c4, c5, c6, u7, c8, c9, k10, n11, c12, c13, c14, t15, d16, t17, t18⟩, e) rfl ⟨o0, o2, o3, o4, o5, o6, o8, o9, o10, o11, o12, o13, o14, o15, o17, o18⟩ eNT
  by_cases e17 : x = 17
  · (refine go ?_; intro b)
    refine o_store_part (vs := [.int .i64 8, .int .u64 0, .string ⟨#[]⟩]) rfl rfl rfl rfl rfl rfl pK (by simp) rfl ?_
    (refine go ?_; intros)
    refine wpC_drawnA [pts b (.cells (fldC x y z s).toArray 363 (0, 0))] 5 ?_
    ((first | refine dt 0 ?_ | refine dts 0 ?_); (first | refine df 1 ?_ | refine dfs 1 ?_); (first | refine df 2 ?_ | refine dfs 2 ?_); (first | refine df 3 ?_ | refine dfs 3 ?_))
    refine dcall 4 (mt_text r 18 (mtkC ⟨n0, h1, a2, c3, c4, c5, c6, u7, c8, c9, 8, 0, .string ⟨#[]⟩, c13, c14, t15, d16, t17, t18⟩) 598 (by simp) x y z s) (fun q hq => ?_)
    obtain ⟨w, e⟩ := q
    try dsimp only at hq ⊢
    simp only [List.cons_append, List.nil_append]
    (refine dl ?_)
    rcases hq with rfl | hq
    · (refine go ?_; intros)
      exact q_ret1 rfl rfl (⟨n0, h1, a2, c3, c4, c5, c6, u7, c8, c9, 8, 0, .string ⟨#[]⟩, c13, c14, t15, d16, t17, s⟩, e) rfl ⟨o0, o2, o3, o4, o5, o6, o8, o9, ⟨by dsimp only; omega, by dsimp only; omega⟩, inK0 _, rfl, o13, o14, o15, o17, hs⟩ eNT
    · cases hq
      (refine go ?_; intros)
      exact q_ret1 rfl rfl (⟨n0, h1, a2, c3, c4, c5, c6, u7, c8, c9, 8, 0, .string ⟨#[]⟩, c13, c14, t15, d16, t17, t18⟩, e) rfl ⟨o0, o2, o3, o4, o5, o6, o8, o9, ⟨by dsimp only; omega, by dsimp only; omega⟩, inK0 _, rfl, o13, o14, o15, o17, o18⟩ eNT
  by_cases e18 : x = 18
  · (refine go ?_; intro b)
    refine o_store_part (vs := [.int .i64 9, .int .u64 0, .string ⟨#[]⟩]) rfl rfl rfl rfl rfl rfl pK (by simp) rfl ?_
    (refine go ?_; intros)
    refine wpC_drawnA [pts b (.cells (fldC x y z s).toArray 363 (0, 0))] 5 ?_
    ((first | refine dt 0 ?_ | refine dts 0 ?_); (first | refine df 1 ?_ | refine dfs 1 ?_); (first | refine df 2 ?_ | refine dfs 2 ?_); (first | refine df 3 ?_ | refine dfs 3 ?_))
    refine dcall 4 (mt_text r 18 (mtkC ⟨n0, h1, a2, c3, c4, c5, c6, u7, c8, c9, 9, 0, .string ⟨#[]⟩, c13, c14, t15, d16, t17, t18⟩) 598 (by simp) x y z s) (fun q hq => ?_)
    obtain ⟨w, e⟩ := q
    try dsimp only at hq ⊢
    simp only [List.cons_append, List.nil_append]
    (refine dl ?_)
    rcases hq with rfl | hq
    · (refine go ?_; intros)
      exact q_ret1 rfl rfl (⟨n0, h1, a2, c3, c4, c5, c6, u7, c8, c9, 9, 0, .string ⟨#[]⟩, c13, c14, t15, d16, t17, s⟩, e) rfl ⟨o0, o2, o3, o4, o5, o6, o8, o9, ⟨by dsimp only; omega, by dsimp only; omega⟩, inK0 _, rfl, o13, o14, o15, o17, hs⟩ eNT
    · cases hq
      (refine go ?_; intros)
      exact q_ret1 rfl rfl (⟨n0, h1, a2, c3, c4, c5, c6, u7, c8, c9, 9, 0, .string ⟨#[]⟩, c13, c14, t15, d16, t17, t18⟩, e) rfl ⟨o0, o2, o3, o4, o5, o6, o8, o9, ⟨by dsimp only; omega, by dsimp only; omega⟩, inK0 _, rfl, o13, o14, o15, o17, o18⟩ eNT
  · have hp := mt_plain hK r ⟨n0, h1, a2, c3, c4, c5, c6, u7, c8, c9, k10, n11, c12, c13, c14, t15, d16, t17, t18⟩ hw x y z s hf
    (refine go ?_; intros)
    (show wpO _ _ ⟨_, .call _, _, _, _, _⟩ _ _ _ _ _ _; refine o_callA (hp) (fun q hq => ?_); try simp only [List.cons_append, List.nil_append])
    (refine go ?_; intros)
    exact q_ret1 rfl rfl q rfl hq eNT
end Go.Proofs.YtnaabpfpldelmaaGreatDoor
set_option linter.unusedSimpArgs false
set_option linter.unusedVariables false
set_option maxRecDepth 20000
namespace Go.Proofs.YtnaabpfpldelmaaGreatDoor
open Go Go.Sx
theorem shp_metric : shp 302 = [.str, .bool, .int .u64, .one, .one, .one, .one, .bool, .one, .one, .int .i64, .int .u64, .one, .one, .one] := by kernel_rfl
theorem shp_param : shp 827 = [.one, .one, .one, .one, .one] := by kernel_rfl
theorem mtr_rows {w : MtkS} (h : MtkOk w) : okRows shp ρ0 302 (mtrC w) 1 := okRows.one (by
  rw [shp_metric]
  exact ⟨⟨_, rfl, h.name⟩, ⟨_, rfl⟩, ⟨_, rfl, h.al⟩, h.c3, h.c4, h.c5, h.c6, ⟨_, rfl⟩, h.c8, h.c9, ⟨_, rfl, inK_i64.2 (by have := h.vk; omega)⟩, ⟨_, rfl, h.vn⟩, h.c12, h.c13, h.c14, trivial⟩)
def mtk0 : MtkS := ⟨⟨#[]⟩, false, 0, .int .u64 0, .int .u32 0, .bool false, .bool false, false, .slice none 0 0, .slice none 0 0, 0, 0, .string ⟨#[]⟩, .slice none 0 0, .slice none 0 0, ⟨#[]⟩, false, ⟨#[]⟩, ⟨#[]⟩⟩
theorem mtk0_ok : MtkOk mtk0 := ⟨Nat.zero_le _, inK0 _, rfl, rfl, rfl, rfl, rfl, rfl, ⟨by decide, by decide⟩, inK0 _, rfl, rfl, rfl, Nat.zero_le _, Nat.zero_le _, Nat.zero_le _⟩
structure Taker (t : TypeId) (v : Value) (deep : Nat) {α : Type} (I : α → HProp) (g : α → Rg) (Ok : Nat → α → Prop) (R : α → Prop) : Prop where
  weak : ∀ i a, Ok i a → R a
  take : ∀ i a x y z s, i < 256 → Ok i a → FldP x y z s → InvDoes Tryz.prog t v "crier/metric.take" [.agg (fldC x y z s).toArray] [I a, rgH (g a)] (fun q : α × Nat => Ok (i + 1) q.1) (fun q => nat64 q.2) (fun q => [I q.1, rgH (g q.1)])
  done : ∀ i a, i ≤ 256 → Ok i a → InvDoes Tryz.prog t v "crier/metric.done" [nat64 deep] [I a, rgH (g a)] (fun q : α × Nat => R q.1) (fun q => nat64 q.2) (fun q => [I q.1, rgH (g q.1)])
attribute [local irreducible] MidQ wpE wpO wpC qE wpQ wpQO wpH wpHO wpD wpDO wpZ Ev own emp exI sl ch PostS LoopQ Rd rowsAt
theorem mt_read {t : TypeId} {v : Value} {deep : Nat} {α : Type} {I : α → HProp} {g : α → Rg} {Ok : Nat → α → Prop} {R : α → Prop} (K : Taker t v deep I g Ok R) (a : α) (ha : Ok 0 a) (s : ByteArray) (hs : s.size ≤ 65536) :
    FnDoes Tryz.prog 446 [.iface t v, .string s, nat64 deep] [I a, rgH (g a)] (fun q : α × Nat => R q.1) (fun q => nat64 q.2) (fun q => [I q.1, rgH (g q.1)]) := by
  refine does_of Tryz.func446 rfl rfl Tryz.ntmps446 rfl eNUM (fun c => ?_)
  (refine go ?_; intros)
  refine o_bytesOf rfl rfl rfl rfl rfl (fun bv => ?_)
  have hb := wire_of (X := bsI bv s.data.toList) Bs.ofBsI (by rw [show s.data.toList.length = s.size from Array.length_toList]; omega)
  (refine go ?_; intros)
  (show wpO _ _ ⟨_, .call _, _, _, _, _⟩ _ _ _ _ _ _; refine o_callA (hb) (fun ⟨e, q, k, xs⟩ hq => ?_); try simp only [List.cons_append, List.nil_append])
  obtain ⟨hq, hk⟩ := hq
  try dsimp only at hq hk ⊢
  by_cases he : e = 0
  · subst he
    have hr : Rd (flI q k xs) 4 q k xs := Rd.ofSl
    refine wpE_fact (hr.isSlice pK) (fun hs => ?_)
    obtain ⟨a0, cap, rfl, hcp⟩ := hs
    (refine go ?_; intros)
    refine wpC_loop (σ := Nat × α) (fun s => s.1 ≤ k ∧ Ok s.1 s.2) (fun s => [(0, .iface t v), (2, nat64 deep), (21, .slice a0 k cap), (22, nat64 k), (23, nat64 s.1)]) (fun s => [I s.2, rgH (g s.2), flI (.slice a0 k cap) k xs]) (fun s => k - s.1) (0, a) ⟨Nat.zero_le _, ha⟩ sUB eNT (fun s hs => ?_)
    obtain ⟨i, w⟩ := s
    obtain ⟨hi, hw⟩ := hs
    try dsimp only at hi hw ⊢
    by_cases hlt : i < k
    · obtain ⟨b, o, rfl, hcap⟩ := hcp (by omega)
      obtain ⟨x, y, z, t, hf, hrow⟩ := fld_row hq hlt
      have ht := K.take i w x y z t (by omega) hw hf
      (refine go ?_; intros)
      refine o_evB (ev_load_rd_agg (vs := fldC x y z t) rfl rfl rfl rfl hr pK rfl rfl hrow) ?_
      (refine go ?_; intro c10)
      (show wpO _ _ ⟨_, .call _, _, _, _, _⟩ _ _ _ _ _ _; refine o_invokeI (ht) (fun ⟨w', e⟩ hw' => ?_); try simp only [List.cons_append, List.nil_append])
      try dsimp only at hw' ⊢
      by_cases he : e = 0
      · subst he
        (refine go ?_; intros)
        exact q_round (i + 1, w') ⟨hlt, hw'⟩ (by show k - (i + 1) < k - i; omega) sUB eNT
      · have he' : (e : Int) ≠ 0 := by omega
        (refine go ?_; intros)
        exact q_ret1 rfl rfl (w', e) rfl (K.weak _ _ hw') eNT
    · have hd := K.done i w (by omega) hw
      (refine go ?_; intros)
      (show wpO _ _ ⟨_, .call _, _, _, _, _⟩ _ _ _ _ _ _; refine o_invokeI (hd) (fun ⟨w', e⟩ hw' => ?_); try simp only [List.cons_append, List.nil_append])
      try dsimp only at hw' ⊢
      (refine go ?_; intros)
      exact q_ret1 rfl rfl (w', e) rfl hw' eNT
  · have he' : (e : Int) ≠ 0 := by omega
    (refine go ?_; intros)
    exact q_ret1 rfl rfl (a, e) rfl (K.weak _ _ ha) eNT
structure PrmS where
  c0 : Value
  c1 : Value
  c2 : Value
  c3 : Value
  c4 : Value
  q : Value
  k : Nat
  xs : List Value
  G : Rg
structure PrmOk (G : Rg) (i : Nat) (s : PrmS) : Prop where
  c0 : s.c0.oneCell' = true
  c1 : s.c1.oneCell' = true
  c2 : s.c2.oneCell' = true
  c3 : s.c3.oneCell' = true
  c4 : s.c4.oneCell' = true
  xs : fldOk s.xs s.k
  k : s.k ≤ i
  i : i ≤ 256
  G : s.G = G
abbrev prmC (r : Nat) (s : PrmS) : HProp := pts r (.cells [s.c0, s.c1, s.c2, s.c3, s.c4, s.q].toArray 834 (0, 0))
def prmI (r : Nat) (s : PrmS) : HProp := exI (σ := Unit) (fun _ => True) (fun _ => [prmC r s, flI s.q s.k s.xs])
set_option maxHeartbeats 1000000 in
theorem pm_take {G : Rg} (r i : Nat) (a : PrmS) (x y z : Int) (s : ByteArray) (hi : i < 256) (ha : PrmOk G i a) (hf : FldP x y z s) : FnDoes Tryz.prog 700 [pt0 r, .agg (fldC x y z s).toArray] [prmI r a, rgH a.G] (fun q : PrmS × Nat => PrmOk G (i + 1) q.1) (fun q => nat64 q.2) (fun q => [prmI r q.1, rgH q.1.G]) := by
  obtain ⟨c0, c1, c2, c3, c4, q, k, xs, G'⟩ := a
  obtain ⟨h0, h1, h2, h3, h4, hx, hk, hi2, rfl⟩ := ha
  try dsimp only at h0 h1 h2 h3 h4 hx hk ⊢
  refine does_of Tryz.func700 rfl rfl Tryz.ntmps700 rfl eNUM (fun c => ?_)
  refine wpC_unfold .head (fun _ _ => ?_)
  simp only [List.cons_append, List.nil_append]
  refine wpC_fact (sl_one (v := q) pK) (fun hq1 => ?_)
  by_cases e1 : x = 1
  · (refine go ?_; intro b)
    refine wpC_drawnA [pts b (.cells (fldC x y z s).toArray 363 (0, 0))] 6 ?_
    ((first | refine dt 0 ?_ | refine dts 0 ?_); (first | refine df 1 ?_ | refine dfs 1 ?_); (first | refine df 2 ?_ | refine dfs 2 ?_); (first | refine df 3 ?_ | refine dfs 3 ?_); (first | refine df 4 ?_ | refine dfs 4 ?_))
    refine dcall 5 (mt_text r 0 [c0, c1, c2, c3, c4, q] 834 (by simp) x y z s) (fun q hq => ?_)
    obtain ⟨w, e⟩ := q
    try dsimp only at hq ⊢
    simp only [List.cons_append, List.nil_append]
    (refine dl ?_)
    rcases hq with rfl | hq
    · (refine go ?_; intros)
      exact q_ret1 rfl rfl (⟨.string s, c1, c2, c3, c4, q, k, xs, G'⟩, e) rfl ⟨rfl, h1, h2, h3, h4, hx, by dsimp only; omega, by omega, rfl⟩ (Ent.fold () trivial eNT)
    · cases hq
      (refine go ?_; intros)
      exact q_ret1 rfl rfl (⟨c0, c1, c2, c3, c4, q, k, xs, G'⟩, e) rfl ⟨h0, h1, h2, h3, h4, hx, by dsimp only; omega, by omega, rfl⟩ (Ent.fold () trivial eNT)
  by_cases e2 : x = 2
  · (refine go ?_; intro b)
    refine wpC_drawnA [pts b (.cells (fldC x y z s).toArray 363 (0, 0))] 6 ?_
    ((first | refine dt 0 ?_ | refine dts 0 ?_); (first | refine df 1 ?_ | refine dfs 1 ?_); (first | refine df 2 ?_ | refine dfs 2 ?_); (first | refine df 3 ?_ | refine dfs 3 ?_); (first | refine df 4 ?_ | refine dfs 4 ?_))
    refine dcall 5 (mt_short r 1 [c0, c1, c2, c3, c4, q] 834 (by simp) x y z s) (fun q hq => ?_)
    obtain ⟨w, e⟩ := q
    try dsimp only at hq ⊢
    simp only [List.cons_append, List.nil_append]
    (refine dl ?_)
    rcases hq with ⟨nb, rfl⟩ | hq
    · (refine go ?_; intros)
      exact q_ret1 rfl rfl (⟨c0, .int .u32 nb, c2, c3, c4, q, k, xs, G'⟩, e) rfl ⟨h0, rfl, h2, h3, h4, hx, by dsimp only; omega, by omega, rfl⟩ (Ent.fold () trivial eNT)
    · cases hq
      (refine go ?_; intros)
      exact q_ret1 rfl rfl (⟨c0, c1, c2, c3, c4, q, k, xs, G'⟩, e) rfl ⟨h0, h1, h2, h3, h4, hx, by dsimp only; omega, by omega, rfl⟩ (Ent.fold () trivial eNT)
  · (refine go ?_; intro b)
    refine wpC_drawnA [prmC r ⟨c0, c1, c2, c3, c4, q, k, xs, G'⟩, pts b (.cells (fldC x y z s).toArray 363 (0, 0))] 10 ?_
    ((first | refine dt 0 ?_ | refine dts 0 ?_); (first | refine dt 1 ?_ | refine dts 1 ?_); (first | refine dt 2 ?_ | refine dts 2 ?_); (first | refine dt 3 ?_ | refine dts 3 ?_); (first | refine dt 4 ?_ | refine dts 4 ?_); (first | refine df 5 ?_ | refine dfs 5 ?_))
    (refine wpD_eff 6 rfl rfl (by kernel_rfl) rfl rfl ?_; show OVL _ ⟨_, .buildSlice _ _ _, _, _, _, _⟩ _ _ _ _ _ _)
    refine x_buildSlice1 (by rfl) (by rfl) (by rfl) (by rfl) (by rfl) (by rfl) (by rfl) (by rfl) (fun b2 => ⟨eNT, ?_⟩)
    (refine wpD_eff 7 rfl rfl (by kernel_rfl) rfl rfl ?_; show OVL _ ⟨_, .call { callee := .builtin .append, args := _, argTypes := _ }, _, _, _, _⟩ _ _ _ _ _ _)
    refine x_append (sz := 4) (news := fldC x y z s) (m := 1) (by rfl) (by rfl) (by rfl) (by rfl) (by rfl) (by rfl) (by rfl) (by rfl) pK ?_ ?_ (fun v' => ⟨eNT, ?_⟩)
    · exact src_pts rfl pK rfl rfl rfl
    · show (k + 1) * 40 ≤ 140737488355328
      omega
    refine wpD_fact (sl_one (v := v') pK) (fun hv' => ?_)
    ((first | refine df 8 ?_ | refine dfs 8 ?_); (first | refine df 9 ?_ | refine dfs 9 ?_))
    (refine wpD_lastU rfl rfl (by kernel_rfl) (by kernel_rfl) rfl ?_; show OUL _ ⟨_, .store _ _ _, _, _, _, _⟩ _ _ _ _ _)
    refine x_store (by rfl) (by rfl) (by rfl) (by rfl) hv' pK (Upd1.of (by simp)) ?_
    (refine go ?_; intros)
    exact q_ret1 rfl rfl (⟨c0, c1, c2, c3, c4, v', k + 1, xs ++ fldC x y z s, G'⟩, 0) rfl ⟨h0, h1, h2, h3, h4, hx.app (fld_one hf), by dsimp only; omega, by omega, rfl⟩ (Ent.fold () trivial eNT)
theorem pm_done {G : Rg} (hK : knG G) (r i : Nat) (deep : Int) (a : PrmS) (hi : i ≤ 256) (ha : PrmOk G i a) : FnDoes Tryz.prog 699 [pt0 r, .int .i64 deep] [prmI r a, rgH a.G] (fun q : PrmS × Nat => PrmOk G i q.1) (fun q => nat64 q.2) (fun q => [prmI r q.1, rgH q.1.G]) := by
  obtain ⟨c0, c1, c2, c3, c4, q, k, xs, G'⟩ := a
  obtain ⟨h0, h1, h2, h3, h4, hx, hk, hi2, rfl⟩ := ha
  try dsimp only at h0 h1 h2 h3 h4 hx hk ⊢
  refine does_of Tryz.func699 rfl rfl Tryz.ntmps699 rfl eNUM (fun c => ?_)
  refine wpC_unfold .head (fun _ _ => ?_)
  simp only [List.cons_append, List.nil_append]
  refine wpC_fact (sl_one (v := q) pK) (fun hq1 => ?_)
  have hv := va_of (G := G') hK (X := flI q k xs) (v := q) Rd.ofSl hx (by omega) 3 ⟨by decide, by decide⟩ false
  (refine go ?_; intros)
  (show wpO _ _ ⟨_, .call _, _, _, _, _⟩ _ _ _ _ _ _; refine o_callA (hv) (fun ⟨kn, n, st, e⟩ hval => ?_); try simp only [List.cons_append, List.nil_append])
  try dsimp only at hval ⊢
  (refine go ?_; intros)
  refine o_store_part (vs := valC kn n st) rfl rfl rfl rfl rfl rfl pK (by simp) rfl ?_
  (refine go ?_; intros)
  exact q_ret1 rfl rfl (⟨c0, c1, nat64 kn, .int .u64 n, .string st, q, k, xs, G'⟩, e) rfl ⟨h0, h1, rfl, rfl, rfl, hx, hk, hi2, rfl⟩ (Ent.fold () trivial eNT)
end Go.Proofs.YtnaabpfpldelmaaGreatDoor
