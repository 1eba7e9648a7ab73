/-
  Texts of the protocol, read: the package utf.
  Who comes, read: the package connect's reader.
  Who comes, read: the flags, and what stands behind the level.
  Who comes, read: what stands behind the level.
-/
import Derived.Test.YtnaabpfpldelmaaGreatDoorM10
import Derived.Test.YtnaabpfpldelmaaGreatDoorM12
set_option linter.unusedSimpArgs false
set_option linter.unusedVariables false
namespace Go.Sx
open Go Go.Conc
def at8 (l : List UInt8) (i : Nat) : Nat := (l.getD i 0).toNat
theorem at8_lt (l : List UInt8) (i : Nat) : at8 l i < 256 := (l.getD i 0).toNat_lt
theorem at8_get {l : List UInt8} {i : Nat} (h : i < l.length) : (u8s l)[i]? = some (.int .u8 (at8 l i)) := by
  have := u8s_get (List.getElem?_eq_getElem h)
  rw [this]; simp [at8, List.getD, List.getElem?_eq_getElem h]
def num2 (l : List UInt8) (at' : Nat) : Nat := at8 l at' * 256 + at8 l (at' + 1)
theorem num2_lt (l : List UInt8) (i : Nat) : num2 l i < 65536 := by
  have := at8_lt l i; have := at8_lt l (i + 1); unfold num2; omega
abbrev nat64 (n : Nat) : Value := .int .i64 n
abbrev pt0 (b : Nat) : Value := .pointer (some ⟨b, 0, none⟩)
def get2V (l : List UInt8) (i : Nat) : Value := if i + 2 ≤ l.length then .tuple #[nat64 (num2 l i), nat64 (i + 2), nat64 0] else .tuple #[nat64 0, nat64 0, nat64 2]
def rawR (l : List UInt8) (i : Nat) : Option (List UInt8) := if i + 2 + num2 l i ≤ l.length then some ((l.drop (i + 2)).take (num2 l i)) else none
def rawV (l : List UInt8) (i : Nat) : Value := match rawR l i with
  | some s => .tuple #[.string (txt s), nat64 (i + 2 + s.length), nat64 0]
  | none => .tuple #[.string ⟨#[]⟩, nat64 0, nat64 2]
def getV (l : List UInt8) (i : Nat) : Value := match rawR l i with
  | some s => if rightD (txt s) then .tuple #[.string (txt s), nat64 (i + 2 + s.length), nat64 0] else .tuple #[.string ⟨#[]⟩, nat64 0, nat64 9]
  | none => .tuple #[.string ⟨#[]⟩, nat64 0, nat64 2]
theorem rawR_len {l s : List UInt8} {i : Nat} (h : rawR l i = some s) : i + 2 + s.length ≤ l.length ∧ s.length = num2 l i := by
  unfold rawR at h
  split at h
  · cases h
    rw [List.length_take, List.length_drop]; omega
  · cases h
end Go.Sx
set_option maxRecDepth 20000
namespace Go.Proofs.YtnaabpfpldelmaaGreatDoor
open Go Go.Sx
attribute [local irreducible] MidQ wpE wpO wpC qE wpQ wpQO wpH wpHO wpD wpDO wpZ Ev own emp exI sl ch PostS LoopQ Rd rowsAt
theorem utf_get2 {X : HProp} {v : Value} {l : List UInt8} (hX : Bs X v l) (i : Nat) (hi : i ≤ l.length) (hl : l.length ≤ 4611686018427387904) : FnDoes Tryz.prog 345 [v, nat64 i] [X] (fun _ : Unit => True) (fun _ => get2V l i) (fun _ => [X]) := by
  refine does_of Tryz.func345 rfl rfl Tryz.ntmps345 rfl eNUM (fun c => ?_)
  refine wpC_fact (hX.isSlice .head) (fun hs => ?_)
  obtain ⟨a, cap, rfl, ha⟩ := hs
  have a1 : ¬ ((i : Int) < 0) := by omega
  have a2 : ¬ ((i : Int) > (l.length : Int)) := by omega
  have b0 := at8_lt l i
  have b1 := at8_lt l (i + 1)
  unfold get2V
  by_cases h : i + 2 ≤ l.length
  · have a3 : ¬ ((l.length : Int) - i < 2) := by omega
    obtain ⟨b, off, rfl, hc⟩ := ha (by omega)
    have c0 := at8_get (l := l) (i := i) (by omega)
    have c1 := at8_get (l := l) (i := i + 1) (by omega)
    rw [if_pos h]
    (refine go ?_; intros)
    refine wpC_drawnA [X] 17 ?_
    ((first | refine dt 0 ?_ | refine dts 0 ?_); (first | refine dt 1 ?_ | refine dts 1 ?_); (first | refine dt 2 ?_ | refine dts 2 ?_))
    refine dtB 3 rfl (ev_load_rd rfl rfl rfl hX pK rfl (by rw [Nat.mul_one]; exact c0)) ?_
    ((first | refine dt 4 ?_ | refine dts 4 ?_); (first | refine dt 5 ?_ | refine dts 5 ?_); (first | refine dt 6 ?_ | refine dts 6 ?_); (first | refine dt 7 ?_ | refine dts 7 ?_); (first | refine dt 8 ?_ | refine dts 8 ?_); (first | refine dt 9 ?_ | refine dts 9 ?_))
    refine dtB 10 rfl (ev_load_rd rfl rfl rfl hX pK rfl (by rw [Nat.mul_one]; exact c1)) ?_
    ((first | refine dt 11 ?_ | refine dts 11 ?_))
    refine dtB 12 rfl (ev_or rfl rfl (i64_or256 b0 b1)) ?_
    ((first | refine dt 13 ?_ | refine dts 13 ?_); (first | refine dt 14 ?_ | refine dts 14 ?_); (first | refine df 15 ?_ | refine dfs 15 ?_); (first | refine df 16 ?_ | refine dfs 16 ?_); refine dl ?_)
    (refine go ?_; intros)
    exact q_ret3 rfl rfl rfl rfl () rfl trivial eNT
  · have a3 : ((l.length : Int) - i < 2) := by omega
    rw [if_neg h]
    (refine go ?_; intros)
    exact q_ret3 rfl rfl rfl rfl () rfl trivial eNT
theorem get2_some {l : List UInt8} {i : Nat} (h : i + 2 ≤ l.length) : get2V l i = .tuple #[nat64 (num2 l i), nat64 (i + 2), nat64 0] := by unfold get2V; rw [if_pos h]
theorem get2_none {l : List UInt8} {i : Nat} (h : ¬ i + 2 ≤ l.length) : get2V l i = .tuple #[nat64 0, nat64 0, nat64 2] := by unfold get2V; rw [if_neg h]
theorem rawV_some {l s : List UInt8} {i : Nat} (h : rawR l i = some s) : rawV l i = .tuple #[.string (txt s), nat64 (i + 2 + s.length), nat64 0] := by unfold rawV; rw [h]
theorem rawV_none {l : List UInt8} {i : Nat} (h : rawR l i = none) : rawV l i = .tuple #[.string ⟨#[]⟩, nat64 0, nat64 2] := by unfold rawV; rw [h]
theorem utf_getRaw {X : HProp} {v : Value} {l : List UInt8} (hX : Bs X v l) (i : Nat) (hi : i ≤ l.length) (hl : l.length ≤ 4611686018427387904) : FnDoes Tryz.prog 428 [v, nat64 i] [X] (fun _ : Unit => True) (fun _ => rawV l i) (fun _ => [X]) := by
  refine does_of Tryz.func428 rfl rfl Tryz.ntmps428 rfl eNUM (fun c => ?_)
  refine wpC_fact (hX.isSlice .head) (fun hs => ?_)
  obtain ⟨a, cap, rfl, ha⟩ := hs
  have b0 := num2_lt l i
  (refine go ?_; intros)
  (show wpO _ _ ⟨_, .call _, _, _, _, _⟩ _ _ _ _ _ _; refine o_callA (utf_get2 hX i hi hl) (fun _ _ => ?_); try simp only [List.cons_append, List.nil_append])
  by_cases h : i + 2 ≤ l.length
  · rw [get2_some h]
    by_cases h2 : i + 2 + num2 l i ≤ l.length
    · have a3 : ¬ ((l.length : Int) - ((i + 2 : Nat) : Int) < (num2 l i : Int)) := by omega
      obtain ⟨b, off, e, hc⟩ := ha (by omega)
      have hr : rawR l i = some ((l.drop (i + 2)).take (num2 l i)) := by unfold rawR; rw [if_pos h2]
      have hv := rawV_some hr
      rw [(rawR_len hr).2] at hv
      (refine go ?_; intros)
      refine o_evB (ev_slcLoHi (l := i + 2) (m := num2 l i) 1 rfl rfl rfl rfl rfl rfl rfl rfl (by omega)) ?_
      (refine go ?_; intros)
      refine o_evB (ev_str rfl rfl rfl rfl (Bs.part hX h2) pK) ?_
      (refine go ?_; intros)
      exact q_ret3 rfl rfl rfl rfl () hv.symm trivial eNT
    · have a3 : ((l.length : Int) - ((i + 2 : Nat) : Int) < (num2 l i : Int)) := by omega
      rw [rawV_none (by unfold rawR; rw [if_neg h2])]
      (refine go ?_; intros)
      exact q_ret3 rfl rfl rfl rfl () rfl trivial eNT
  · rw [get2_none h, rawV_none (by unfold rawR; rw [if_neg (by omega)])]
    (refine go ?_; intros)
    exact q_ret3 rfl rfl rfl rfl () rfl trivial eNT
theorem utf_get (H : PHeap) (V : ∀ s : ByteArray, s.size ≤ 65535 → FnDoes Tryz.prog 275 [.string s] [own H] (fun _ : Unit => True) (fun _ => .bool (Lib.validD s.data.toList)) (fun _ => [own H]))
    {X : HProp} {v : Value} {l : List UInt8} (hX : Bs X v l) (i : Nat) (hi : i ≤ l.length) (hl : l.length ≤ 4611686018427387904) : FnDoes Tryz.prog 338 [v, nat64 i] [own H, X] (fun _ : Unit => True) (fun _ => getV l i) (fun _ => [own H, X]) := by
  refine does_of Tryz.func338 rfl rfl Tryz.ntmps338 rfl eNUM (fun c => ?_)
  (refine go ?_; intros)
  (show wpO _ _ ⟨_, .call _, _, _, _, _⟩ _ _ _ _ _ _; refine o_callA (utf_getRaw hX i hi hl) (fun _ _ => ?_); try simp only [List.cons_append, List.nil_append])
  unfold getV
  cases hr : rawR l i with
  | none =>
    rw [rawV_none hr]
    (refine go ?_; intros)
    exact q_ret3 rfl rfl rfl rfl () rfl trivial eNT
  | some s =>
    rw [rawV_some hr]
    (refine go ?_; intros)
    (show wpO _ _ ⟨_, .call _, _, _, _, _⟩ _ _ _ _ _ _; refine o_callA (utf_right H V (txt s)) (fun _ _ => ?_); try simp only [List.cons_append, List.nil_append])
    cases hd : rightD (txt s)
    · (refine go ?_; intros)
      exact q_ret3 rfl rfl rfl rfl () rfl trivial eNT
    · (refine go ?_; intros)
      exact q_ret3 rfl rfl rfl rfl () rfl trivial eNT
end Go.Proofs.YtnaabpfpldelmaaGreatDoor
set_option linter.unusedSimpArgs false
set_option linter.unusedVariables false
namespace Go.Sx
open Go Go.Conc
structure Rdr where
  at' : Nat
  e : Nat
def rFail (z : Rdr) (x : Nat) : Rdr := if z.e = 0 then ⟨z.at', x⟩ else z
def rOne (l : List UInt8) (z : Rdr) : Nat × Rdr := if z.e ≠ 0 then (0, z) else if l.length ≤ z.at' then (0, ⟨z.at', 2⟩) else (at8 l z.at', ⟨z.at' + 1, 0⟩)
def rTwo (l : List UInt8) (z : Rdr) : Nat × Rdr := if z.e ≠ 0 then (0, z) else if z.at' + 2 ≤ l.length then (num2 l z.at', ⟨z.at' + 2, 0⟩) else (0, ⟨0, 2⟩)
def rText (l : List UInt8) (how : List UInt8 → Nat → Value) (z : Rdr) (is : Bool) (s : ByteArray) (z' : Rdr) : Prop :=
  if is = false ∨ z.e ≠ 0 then s = ⟨#[]⟩ ∧ z' = z else ∃ to e, how l z.at' = .tuple #[.string s, nat64 to, nat64 e] ∧ z' = ⟨to, e⟩
end Go.Sx
set_option maxRecDepth 20000
namespace Go.Proofs.YtnaabpfpldelmaaGreatDoor
open Go Go.Sx
def rdI (r : Nat) (v : Value) (z : Rdr) : HProp := pts r (.cells [v, nat64 z.at', nat64 z.e].toArray 509 (0, 0))
attribute [local irreducible] MidQ wpE wpO wpC qE wpQ wpQO wpH wpHO wpD wpDO wpZ Ev own emp exI sl ch PostS LoopQ Rd rowsAt
theorem rd_fail (r : Nat) (v : Value) (z : Rdr) (x : Nat) : FnDoes Tryz.prog 339 [pt0 r, nat64 x] [rdI r v z] (fun _ : Unit => True) (fun _ => .tuple #[]) (fun _ => [rdI r v (rFail z x)]) := by
  obtain ⟨p, e⟩ := z
  unfold rdI rFail
  refine does_of Tryz.func339 rfl rfl Tryz.ntmps339 rfl eNUM (fun c => ?_)
  by_cases h : e = 0
  · have h1 : (e : Int) = 0 := by omega
    rw [if_pos h]
    (refine go ?_; intros)
    exact q_ret0 rfl () rfl trivial eNT _ (.inr rfl)
  · have h1 : ¬ (e : Int) = 0 := by omega
    rw [if_neg h]
    (refine go ?_; intros)
    exact q_ret0 rfl () rfl trivial eNT _ (.inr rfl)
theorem rd_one {X : HProp} {v : Value} {l : List UInt8} (hX : Bs X v l) (r : Nat) (z : Rdr) (hl : l.length ≤ 4611686018427387904) : FnDoes Tryz.prog 340 [pt0 r] [rdI r v z, X] (fun _ : Unit => True) (fun _ => nat64 (rOne l z).1) (fun _ => [rdI r v (rOne l z).2, X]) := by
  obtain ⟨p, e⟩ := z
  unfold rOne
  refine does_of Tryz.func340 rfl rfl Tryz.ntmps340 rfl eNUM (fun c => ?_)
  refine wpC_fact (hX.isSlice (.tail .head)) (fun hs => ?_)
  obtain ⟨a, cap, rfl, ha⟩ := hs
  by_cases h : e = 0
  · subst h
    have h1 : ¬ ((0 : Nat) : Int) ≠ 0 := by omega
    rw [if_neg (by simp)]
    by_cases h2 : l.length ≤ p
    · have h3 : (p : Int) ≥ (l.length : Int) := by omega
      rw [if_pos h2]
      unfold rdI
      dsimp only
      (refine go ?_; intros)
      refine wpC_drawnA [pts r (.cells [Value.slice a l.length cap, nat64 p, nat64 0].toArray 509 (0, 0))] 9 ?_
      ((first | refine dt 0 ?_ | refine dts 0 ?_); (first | refine dt 1 ?_ | refine dts 1 ?_); (first | refine dt 2 ?_ | refine dts 2 ?_); (first | refine dt 3 ?_ | refine dts 3 ?_); (first | refine df 4 ?_ | refine dfs 4 ?_); (first | refine df 5 ?_ | refine dfs 5 ?_); (first | refine df 6 ?_ | refine dfs 6 ?_); (first | refine df 7 ?_ | refine dfs 7 ?_); (first | refine df 8 ?_ | refine dfs 8 ?_); refine dl ?_)
      (refine go ?_; intros)
      (show wpO _ _ ⟨_, .call _, _, _, _, _⟩ _ _ _ _ _ _; refine o_callA (rd_fail r _ ⟨p, 0⟩ 2) (fun _ _ => ?_); try simp only [List.cons_append, List.nil_append])
      unfold rdI rFail
      (refine go ?_; intros)
      exact q_ret1 rfl rfl () rfl trivial eNT
    · have h3 : ¬ (p : Int) ≥ (l.length : Int) := by omega
      have b0 := at8_lt l p
      have c0 := at8_get (l := l) (i := p) (by omega)
      obtain ⟨b, off, rfl, hc⟩ := ha (by omega)
      rw [if_neg h2]
      unfold rdI
      dsimp only
      (refine go ?_; intros)
      refine wpC_drawnA [pts r (.cells [Value.slice (some ⟨b, off, none⟩) l.length cap, nat64 p, nat64 0].toArray 509 (0, 0))] 9 ?_
      ((first | refine dt 0 ?_ | refine dts 0 ?_); (first | refine dt 1 ?_ | refine dts 1 ?_); (first | refine dt 2 ?_ | refine dts 2 ?_); (first | refine dt 3 ?_ | refine dts 3 ?_); (first | refine df 4 ?_ | refine dfs 4 ?_); (first | refine df 5 ?_ | refine dfs 5 ?_); (first | refine df 6 ?_ | refine dfs 6 ?_); (first | refine df 7 ?_ | refine dfs 7 ?_); (first | refine df 8 ?_ | refine dfs 8 ?_); refine dl ?_)
      (refine go ?_; intros)
      refine wpC_drawnA [pts r (.cells [Value.slice (some ⟨b, off, none⟩) l.length cap, .int .i64 (p + 1), nat64 0].toArray 509 (0, 0)), X] 12 ?_
      ((first | refine dt 0 ?_ | refine dts 0 ?_); (first | refine dt 1 ?_ | refine dts 1 ?_); (first | refine dt 2 ?_ | refine dts 2 ?_); (first | refine dt 3 ?_ | refine dts 3 ?_); (first | refine df 4 ?_ | refine dfs 4 ?_); (first | refine df 5 ?_ | refine dfs 5 ?_); (first | refine df 6 ?_ | refine dfs 6 ?_); (first | refine df 7 ?_ | refine dfs 7 ?_); (first | refine df 8 ?_ | refine dfs 8 ?_))
      refine dfB 9 rfl (ev_indexS 1 (i := p) rfl rfl rfl rfl rfl (by omega) (by omega)) ?_
      refine dfB 10 rfl (ev_load_rd rfl rfl rfl hX pK rfl (by rw [Nat.mul_one]; exact c0)) ?_
      ((first | refine df 11 ?_ | refine dfs 11 ?_); refine dl ?_)
      (refine go ?_; intros)
      exact q_ret1 rfl rfl () rfl trivial eNT
  · have h1 : (e : Int) ≠ 0 := by omega
    rw [if_pos h]
    unfold rdI
    (refine go ?_; intros)
    exact q_ret1 rfl rfl () rfl trivial eNT
theorem rd_two {X : HProp} {v : Value} {l : List UInt8} (hX : Bs X v l) (r : Nat) (z : Rdr) (hz : z.at' ≤ l.length) (hl : l.length ≤ 4611686018427387904) : FnDoes Tryz.prog 430 [pt0 r] [rdI r v z, X] (fun _ : Unit => True) (fun _ => nat64 (rTwo l z).1) (fun _ => [rdI r v (rTwo l z).2, X]) := by
  obtain ⟨p, e⟩ := z
  unfold rTwo
  refine does_of Tryz.func430 rfl rfl Tryz.ntmps430 rfl eNUM (fun c => ?_)
  refine wpC_fact (Rd.one1 hX (.tail .head)) (fun h1v => ?_)
  by_cases h : e = 0
  · subst h
    have h1 : ¬ ((0 : Nat) : Int) ≠ 0 := by omega
    rw [if_neg (by simp)]
    unfold rdI
    dsimp only
    (refine go ?_; intros)
    refine wpC_drawnA [pts r (.cells [v, nat64 p, nat64 0].toArray 509 (0, 0)), X] 15 ?_
    ((first | refine dt 0 ?_ | refine dts 0 ?_); (first | refine dt 1 ?_ | refine dts 1 ?_); (first | refine dt 2 ?_ | refine dts 2 ?_); (first | refine dt 3 ?_ | refine dts 3 ?_); (first | refine df 4 ?_ | refine dfs 4 ?_); (first | refine df 5 ?_ | refine dfs 5 ?_); (first | refine df 6 ?_ | refine dfs 6 ?_); (first | refine df 7 ?_ | refine dfs 7 ?_))
    (refine dcall 8 (utf_get2 hX p hz hl) (fun _ _ => ?_); try simp only [List.cons_append, List.nil_append])
    by_cases h2 : p + 2 ≤ l.length
    · rw [get2_some h2, if_pos h2]
      ((first | refine df 9 ?_ | refine dfs 9 ?_); (first | refine dt 10 ?_ | refine dts 10 ?_); (first | refine dt 11 ?_ | refine dts 11 ?_); (first | refine dt 12 ?_ | refine dts 12 ?_); (first | refine df 13 ?_ | refine dfs 13 ?_); (first | refine df 14 ?_ | refine dfs 14 ?_); refine dl ?_)
      (refine go ?_; intros)
      (show wpO _ _ ⟨_, .call _, _, _, _, _⟩ _ _ _ _ _ _; refine o_callA (rd_fail r _ ⟨p, 0⟩ 0) (fun _ _ => ?_); try simp only [List.cons_append, List.nil_append])
      unfold rdI rFail
      dsimp only
      (refine go ?_; intros)
      exact q_ret1 rfl rfl () rfl trivial eNT
    · rw [get2_none h2, if_neg h2]
      ((first | refine df 9 ?_ | refine dfs 9 ?_); (first | refine dt 10 ?_ | refine dts 10 ?_); (first | refine dt 11 ?_ | refine dts 11 ?_); (first | refine dt 12 ?_ | refine dts 12 ?_); (first | refine df 13 ?_ | refine dfs 13 ?_); (first | refine df 14 ?_ | refine dfs 14 ?_); refine dl ?_)
      (refine go ?_; intros)
      (show wpO _ _ ⟨_, .call _, _, _, _, _⟩ _ _ _ _ _ _; refine o_callA (rd_fail r _ ⟨p, 0⟩ 2) (fun _ _ => ?_); try simp only [List.cons_append, List.nil_append])
      unfold rdI rFail
      dsimp only
      (refine go ?_; intros)
      exact q_ret1 rfl rfl () rfl trivial eNT
  · have h1 : (e : Int) ≠ 0 := by omega
    rw [if_pos h]
    unfold rdI
    (refine go ?_; intros)
    exact q_ret1 rfl rfl () rfl trivial eNT
theorem rd_text {X Y : HProp} {v : Value} {l : List UInt8} (hX : Bs X v l) (r : Nat) (z : Rdr) {f : FuncId} {how : List UInt8 → Nat → Value} (is : Bool) (fn : z.at' ≤ l.length → FnDoes Tryz.prog f [v, nat64 z.at'] [Y, X] (fun _ : Unit => True) (fun _ => how l z.at') (fun _ => [Y, X])) (hz : z.at' ≤ l.length) {s : ByteArray} {z' : Rdr} (ht : rText l how z is s z') :
    FnDoes Tryz.prog 337 [pt0 r, .bool is, .func (.func f) #[] #[]] [rdI r v z, X, Y] (fun _ : Unit => True) (fun _ => .string s) (fun _ => [rdI r v z', X, Y]) := by
  obtain ⟨p, e⟩ := z
  unfold rText at ht
  refine does_of Tryz.func337 rfl rfl Tryz.ntmps337 rfl eNUM (fun c => ?_)
  refine wpC_fact (Rd.one1 hX (.tail .head)) (fun h1v => ?_)
  cases is
  · rw [if_pos (.inl rfl)] at ht
    obtain ⟨rfl, rfl⟩ := ht
    unfold rdI
    (refine go ?_; intros)
    exact q_ret1 rfl rfl () rfl trivial eNT
  · by_cases h : e = 0
    · subst h
      have h1 : ¬ ((0 : Nat) : Int) ≠ 0 := by omega
      rw [if_neg (by simp)] at ht
      obtain ⟨to, e, ht, rfl⟩ := ht
      have fn' := fn hz
      dsimp only at ht fn'
      rw [ht] at fn'
      unfold rdI
      dsimp only
      (refine go ?_; intros)
      refine wpC_drawnA [pts r (.cells [v, nat64 p, nat64 0].toArray 509 (0, 0)), X, Y] 16 ?_
      ((first | refine dt 0 ?_ | refine dts 0 ?_); (first | refine dt 1 ?_ | refine dts 1 ?_); (first | refine dt 2 ?_ | refine dts 2 ?_); (first | refine dt 3 ?_ | refine dts 3 ?_); (first | refine dt 4 ?_ | refine dts 4 ?_); (first | refine df 5 ?_ | refine dfs 5 ?_); (first | refine df 6 ?_ | refine dfs 6 ?_); (first | refine df 7 ?_ | refine dfs 7 ?_); (first | refine df 8 ?_ | refine dfs 8 ?_))
      refine dcallV 9 (fr := []) (args := [v, nat64 p]) fn' (fun _ _ => ?_)
      ((first | refine df 10 ?_ | refine dfs 10 ?_); (first | refine dt 11 ?_ | refine dts 11 ?_); (first | refine dt 12 ?_ | refine dts 12 ?_); (first | refine dt 13 ?_ | refine dts 13 ?_); (first | refine df 14 ?_ | refine dfs 14 ?_); (first | refine df 15 ?_ | refine dfs 15 ?_); refine dl ?_)
      (refine go ?_; intros)
      (show wpO _ _ ⟨_, .call _, _, _, _, _⟩ _ _ _ _ _ _; refine o_callA (rd_fail r _ ⟨p, 0⟩ e) (fun _ _ => ?_); try simp only [List.cons_append, List.nil_append])
      unfold rdI rFail
      dsimp only
      (refine go ?_; intros)
      exact q_ret1 rfl rfl () rfl trivial eNT
    · have h1 : (e : Int) ≠ 0 := by omega
      rw [if_pos (.inr h)] at ht
      obtain ⟨rfl, rfl⟩ := ht
      unfold rdI
      (refine go ?_; intros)
      exact q_ret1 rfl rfl () rfl trivial eNT
end Go.Proofs.YtnaabpfpldelmaaGreatDoor
set_option linter.unusedSimpArgs false
set_option linter.unusedVariables false
namespace Go.Sx
open Go Go.Conc
def mayF (f : Nat) : Bool := if f &&& 1 ≠ 0 ∨ (f / 8) &&& 3 = 3 then false else if f &&& 4 = 0 ∧ ((f / 8) &&& 3 ≠ 0 ∨ f &&& 32 ≠ 0) then false else decide (f &&& 64 = 0 ∨ f &&& 128 ≠ 0)
end Go.Sx
set_option maxRecDepth 20000
namespace Go.Proofs.YtnaabpfpldelmaaGreatDoor
open Go Go.Sx
attribute [local irreducible] MidQ wpE wpO wpC qE wpQ wpQO wpH wpHO wpD wpDO wpZ Ev own emp exI sl ch PostS LoopQ Rd rowsAt
theorem conn_may (f : Nat) (hf : f < 256) : FnDoes Tryz.prog 429 [nat64 f] [] (fun _ : Unit => True) (fun _ => .bool (mayF f)) (fun _ => []) := by
  unfold mayF
  have hd : f / 8 < 256 := by omega
  refine does_of Tryz.func429 rfl rfl Tryz.ntmps429 rfl eNUM (fun c => ?_)
  by_cases h1 : f &&& 1 = 0
  · by_cases hq : (f / 8) &&& 3 = 3
    · rw [if_pos (.inr hq)]
      by_cases h4 : f &&& 4 = 0
      · (refine go ?_; intros)
        exact q_ret1 rfl rfl () rfl trivial eNT
      · (refine go ?_; intros)
        exact q_ret1 rfl rfl () rfl trivial eNT
    · rw [if_neg (by omega)]
      by_cases h4 : f &&& 4 = 0
      · by_cases hq0 : (f / 8) &&& 3 = 0
        · by_cases h32 : f &&& 32 = 0
          · rw [if_neg (by omega)]
            by_cases h64 : f &&& 64 = 0
            · rw [decide_eq_true (.inl h64)]
              (refine go ?_; intros)
              exact q_ret1 rfl rfl () rfl trivial eNT
            · by_cases h128 : f &&& 128 = 0
              · rw [decide_eq_false (by omega)]
                (refine go ?_; intros)
                exact q_ret1 rfl rfl () rfl trivial eNT
              · rw [decide_eq_true (.inr h128)]
                (refine go ?_; intros)
                exact q_ret1 rfl rfl () rfl trivial eNT
          · rw [if_pos ⟨h4, .inr h32⟩]
            (refine go ?_; intros)
            exact q_ret1 rfl rfl () rfl trivial eNT
        · rw [if_pos ⟨h4, .inl hq0⟩]
          (refine go ?_; intros)
          exact q_ret1 rfl rfl () rfl trivial eNT
      · rw [if_neg (by omega)]
        by_cases h64 : f &&& 64 = 0
        · rw [decide_eq_true (.inl h64)]
          (refine go ?_; intros)
          exact q_ret1 rfl rfl () rfl trivial eNT
        · by_cases h128 : f &&& 128 = 0
          · rw [decide_eq_false (by omega)]
            (refine go ?_; intros)
            exact q_ret1 rfl rfl () rfl trivial eNT
          · rw [decide_eq_true (.inr h128)]
            (refine go ?_; intros)
            exact q_ret1 rfl rfl () rfl trivial eNT
  · rw [if_pos (.inl h1)]
    by_cases h4 : f &&& 4 = 0
    · (refine go ?_; intros)
      exact q_ret1 rfl rfl () rfl trivial eNT
    · (refine go ?_; intros)
      exact q_ret1 rfl rfl () rfl trivial eNT
end Go.Proofs.YtnaabpfpldelmaaGreatDoor
set_option linter.unusedSimpArgs false
set_option linter.unusedVariables false
namespace Go.Sx
open Go Go.Conc
def rawF (l : List UInt8) (i : Nat) : ByteArray × Nat × Nat := match rawR l i with
  | some s => (txt s, i + 2 + s.length, 0)
  | none => (⟨#[]⟩, 0, 2)
def getF (l : List UInt8) (i : Nat) : ByteArray × Nat × Nat := match rawR l i with
  | some s => if rightD (txt s) then (txt s, i + 2 + s.length, 0) else (⟨#[]⟩, 0, 9)
  | none => (⟨#[]⟩, 0, 2)
def tupF (x : ByteArray × Nat × Nat) : Value := .tuple #[.string x.1, nat64 x.2.1, nat64 x.2.2]
theorem rawV_F (l : List UInt8) (i : Nat) : rawV l i = tupF (rawF l i) := by unfold rawV rawF; cases rawR l i <;> rfl
theorem getV_F (l : List UInt8) (i : Nat) : getV l i = tupF (getF l i) := by
  unfold getV getF
  cases rawR l i with
  | none => rfl
  | some s => dsimp only; cases rightD (txt s) <;> rfl
theorem rawF_le (l : List UInt8) (i : Nat) : (rawF l i).2.1 ≤ l.length := by
  unfold rawF
  split
  · rename_i s h; exact (rawR_len h).1
  · simp
theorem getF_le (l : List UInt8) (i : Nat) : (getF l i).2.1 ≤ l.length := by
  unfold getF
  split
  · rename_i s h
    split
    · exact (rawR_len h).1
    · simp
  · simp
def rTextF (how : List UInt8 → Nat → ByteArray × Nat × Nat) (l : List UInt8) (z : Rdr) (is : Bool) : ByteArray × Rdr :=
  if is = false ∨ z.e ≠ 0 then (⟨#[]⟩, z) else ((how l z.at').1, ⟨(how l z.at').2.1, (how l z.at').2.2⟩)
theorem rTextF_ok {how : List UInt8 → Nat → Value} {hf : List UInt8 → Nat → ByteArray × Nat × Nat} (hh : ∀ l i, how l i = tupF (hf l i)) (l : List UInt8) (z : Rdr) (is : Bool) : rText l how z is (rTextF hf l z is).1 (rTextF hf l z is).2 := by
  unfold rText rTextF
  split
  · exact ⟨rfl, rfl⟩
  · exact ⟨_, _, hh _ _, rfl⟩
theorem rTextF_le {hf : List UInt8 → Nat → ByteArray × Nat × Nat} (hl : ∀ l i, (hf l i).2.1 ≤ l.length) (l : List UInt8) (z : Rdr) (is : Bool) (hz : z.at' ≤ l.length) : (rTextF hf l z is).2.at' ≤ l.length := by
  unfold rTextF
  split
  · exact hz
  · exact hl _ _
theorem rTwo_le (l : List UInt8) (z : Rdr) (hz : z.at' ≤ l.length) : (rTwo l z).2.at' ≤ l.length := by
  unfold rTwo
  split
  · exact hz
  · split
    · assumption
    · simp
theorem rOne_le (l : List UInt8) (z : Rdr) (hz : z.at' ≤ l.length) : (rOne l z).2.at' ≤ l.length := by
  unfold rOne
  split
  · exact hz
  · split
    · exact hz
    · simp; omega
theorem rOne_lt (l : List UInt8) (z : Rdr) : (rOne l z).1 < 256 := by
  unfold rOne
  split
  · simp
  · split
    · simp
    · exact at8_lt _ _
theorem rFail_at (z : Rdr) (x : Nat) : (rFail z x).at' = z.at' := by unfold rFail; split <;> rfl
def rs1 (l : List UInt8) (z : Rdr) : Rdr := if (rOne l z).2.e = 0 ∧ mayF (rOne l z).1 = false then rFail (rOne l z).2 10 else (rOne l z).2
def bitB (f b : Nat) : Bool := ((f &&& b : Nat) : Int) != 0
def rs2 (l : List UInt8) (z : Rdr) := rTwo l (rs1 l z)
def rs3 (l : List UInt8) (z : Rdr) := rTextF getF l (rs2 l z).2 true
def rs4 (l : List UInt8) (z : Rdr) := rTextF getF l (rs3 l z).2 (bitB (rOne l z).1 4)
def rs5 (l : List UInt8) (z : Rdr) := rTextF rawF l (rs4 l z).2 (bitB (rOne l z).1 4)
def rs6 (l : List UInt8) (z : Rdr) := rTextF getF l (rs5 l z).2 (bitB (rOne l z).1 128)
def rs7 (l : List UInt8) (z : Rdr) := rTextF rawF l (rs6 l z).2 (bitB (rOne l z).1 64)
def rs8 (l : List UInt8) (z : Rdr) : Rdr := if (rs7 l z).2.e = 0 ∧ (rs7 l z).2.at' ≠ l.length then rFail (rs7 l z).2 4 else (rs7 l z).2
def restC (l : List UInt8) (z : Rdr) (lv : Value) : List Value := [lv, .bool (bitB (rOne l z).1 2), nat64 (rs2 l z).1, .string (rs3 l z).1, .bool (bitB (rOne l z).1 4), .string (rs4 l z).1, .string (rs5 l z).1, nat64 ((rOne l z).1 / 8 &&& 3), .bool (bitB (rOne l z).1 32), .bool (bitB (rOne l z).1 128), .string (rs6 l z).1, .bool (bitB (rOne l z).1 64), .string (rs7 l z).1]
theorem rs1_le (l : List UInt8) (z : Rdr) (hz : z.at' ≤ l.length) : (rs1 l z).at' ≤ l.length := by
  unfold rs1
  split
  · rw [rFail_at]; exact rOne_le l z hz
  · exact rOne_le l z hz
theorem rs2_le (l : List UInt8) (z : Rdr) (hz : z.at' ≤ l.length) : (rs2 l z).2.at' ≤ l.length := rTwo_le _ _ (rs1_le l z hz)
theorem rs3_le (l : List UInt8) (z : Rdr) (hz : z.at' ≤ l.length) : (rs3 l z).2.at' ≤ l.length := rTextF_le getF_le _ _ _ (rs2_le l z hz)
theorem rs4_le (l : List UInt8) (z : Rdr) (hz : z.at' ≤ l.length) : (rs4 l z).2.at' ≤ l.length := rTextF_le getF_le _ _ _ (rs3_le l z hz)
theorem rs5_le (l : List UInt8) (z : Rdr) (hz : z.at' ≤ l.length) : (rs5 l z).2.at' ≤ l.length := rTextF_le rawF_le _ _ _ (rs4_le l z hz)
theorem rs6_le (l : List UInt8) (z : Rdr) (hz : z.at' ≤ l.length) : (rs6 l z).2.at' ≤ l.length := rTextF_le getF_le _ _ _ (rs5_le l z hz)
theorem rs7_le (l : List UInt8) (z : Rdr) (hz : z.at' ≤ l.length) : (rs7 l z).2.at' ≤ l.length := rTextF_le rawF_le _ _ _ (rs6_le l z hz)
end Go.Sx
namespace Go.Sx
open Go Go.Conc
theorem rs1_cases (l : List UInt8) (z : Rdr) : ((rOne l z).2.e = 0 ∧ mayF (rOne l z).1 = false ∧ rs1 l z = rFail (rOne l z).2 10) ∨ ((rOne l z).2.e = 0 ∧ mayF (rOne l z).1 = true ∧ rs1 l z = (rOne l z).2) ∨ ((rOne l z).2.e ≠ 0 ∧ rs1 l z = (rOne l z).2) := by
  unfold rs1
  by_cases h : (rOne l z).2.e = 0
  · cases hm : mayF (rOne l z).1
    · exact .inl ⟨h, rfl, by rw [if_pos ⟨h, rfl⟩]⟩
    · exact .inr (.inl ⟨h, rfl, by rw [if_neg (by simp)]⟩)
  · exact .inr (.inr ⟨h, by rw [if_neg (fun e => h e.1)]⟩)
end Go.Sx
set_option maxRecDepth 20000
namespace Go.Proofs.YtnaabpfpldelmaaGreatDoor
open Go Go.Sx
def connI (cc : Nat) (cs : List Value) : HProp := pts cc (.cells cs.toArray 28 (0, 0))
def conn0 (lv : Value) : List Value := [lv, .bool false, nat64 0, .string ⟨#[]⟩, .bool false, .string ⟨#[]⟩, .string ⟨#[]⟩, nat64 0, .bool false, .bool false, .string ⟨#[]⟩, .bool false, .string ⟨#[]⟩]
attribute [local irreducible] MidQ wpE wpO wpC qE wpQ wpQO wpH wpHO wpD wpDO wpZ Ev own emp exI sl ch PostS LoopQ Rd rowsAt
theorem utf_getRawY {X Y : HProp} {v : Value} {l : List UInt8} (hX : Bs X v l) (i : Nat) (hi : i ≤ l.length) (hl : l.length ≤ 4611686018427387904) : FnDoes Tryz.prog 428 [v, nat64 i] [Y, X] (fun _ : Unit => True) (fun _ => rawV l i) (fun _ => [Y, X]) :=
  (utf_getRaw hX i hi hl).frame1 (R := [Y]) (Picks.ent pKS) (fun _ _ => by ((try simp only [List.cons_append, List.nil_append]); repeat (first | exact Ent.nil | (apply Ent.cons; repeat (first | exact Pick.head | apply Pick.tail)))))
theorem rd_textG (H : PHeap) (V : ∀ s : ByteArray, s.size ≤ 65535 → FnDoes Tryz.prog 275 [.string s] [own H] (fun _ : Unit => True) (fun _ => .bool (Lib.validD s.data.toList)) (fun _ => [own H]))
    {X : HProp} {v : Value} {l : List UInt8} (hX : Bs X v l) (hl : l.length ≤ 4611686018427387904) (r : Nat) (z : Rdr) (is : Bool) (hz : z.at' ≤ l.length) :
    FnDoes Tryz.prog 337 [pt0 r, .bool is, .func (.func 338) #[] #[]] [rdI r v z, X, own H] (fun _ : Unit => True) (fun _ => .string (rTextF getF l z is).1) (fun _ => [rdI r v (rTextF getF l z is).2, X, own H]) :=
  rd_text (Y := own H) hX r z is (fun h => utf_get H V hX z.at' h hl) hz (rTextF_ok getV_F l z is)
theorem rd_textR {X Y : HProp} {v : Value} {l : List UInt8} (hX : Bs X v l) (hl : l.length ≤ 4611686018427387904) (r : Nat) (z : Rdr) (is : Bool) (hz : z.at' ≤ l.length) :
    FnDoes Tryz.prog 337 [pt0 r, .bool is, .func (.func 428) #[] #[]] [rdI r v z, X, Y] (fun _ : Unit => True) (fun _ => .string (rTextF rawF l z is).1) (fun _ => [rdI r v (rTextF rawF l z is).2, X, Y]) :=
  rd_text (Y := Y) hX r z is (fun h => utf_getRawY hX z.at' h hl) hz (rTextF_ok rawV_F l z is)
set_option maxHeartbeats 2000000 in
theorem rd_rest (H : PHeap) (V : ∀ s : ByteArray, s.size ≤ 65535 → FnDoes Tryz.prog 275 [.string s] [own H] (fun _ : Unit => True) (fun _ => .bool (Lib.validD s.data.toList)) (fun _ => [own H]))
    {X : HProp} {v : Value} {l : List UInt8} (hX : Bs X v l) (hl : l.length ≤ 4611686018427387904) (r cc : Nat) (z : Rdr) (hz : z.at' ≤ l.length) (lv : Int) :
    FnDoes Tryz.prog 341 [pt0 r, pt0 cc] [rdI r v z, X, own H, connI cc (conn0 (.int .i64 lv))] (fun _ : Unit => True) (fun _ => .tuple #[]) (fun _ => [rdI r v (rs8 l z), X, own H, connI cc (restC l z (.int .i64 lv))]) := by
  refine does_of Tryz.func341 rfl rfl Tryz.ntmps341 rfl eNUM (fun c => ?_)
  refine wpC_fact (hX.isSlice (.tail .head)) (fun hs => ?_)
  obtain ⟨a0, cap, rfl, ha⟩ := hs
  have hf := rOne_lt l z
  have z2 := rs2_le l z hz
  have z3 := rs3_le l z hz
  have z4 := rs4_le l z hz
  have z5 := rs5_le l z hz
  have z6 := rs6_le l z hz
  have z7 := rs7_le l z hz
  (refine go ?_; intros)
  (show wpO _ _ ⟨_, .call _, _, _, _, _⟩ _ _ _ _ _ _; refine o_callA (rd_one hX r z hl) (fun _ _ => ?_); try simp only [List.cons_append, List.nil_append])
  rcases rs1_cases l z with ⟨a, b, e⟩ | ⟨a, b, e⟩ | ⟨a, e⟩
  focus
    have a' : (((rOne l z).2.e : Nat) : Int) = 0 := by omega
    unfold rdI
    (refine go ?_; intros)
    (show wpO _ _ ⟨_, .call _, _, _, _, _⟩ _ _ _ _ _ _; refine o_callA (conn_may (rOne l z).1 hf) (fun _ _ => ?_); try simp only [List.cons_append, List.nil_append])
    rw [b]
    (refine go ?_; intros)
    (show wpO _ _ ⟨_, .call _, _, _, _, _⟩ _ _ _ _ _ _; refine o_callA (rd_fail r _ (rOne l z).2 10) (fun _ _ => ?_); try simp only [List.cons_append, List.nil_append])
    rw [← e]
  rotate_left
  focus
    have a' : (((rOne l z).2.e : Nat) : Int) = 0 := by omega
    unfold rdI
    (refine go ?_; intros)
    (show wpO _ _ ⟨_, .call _, _, _, _, _⟩ _ _ _ _ _ _; refine o_callA (conn_may (rOne l z).1 hf) (fun _ _ => ?_); try simp only [List.cons_append, List.nil_append])
    rw [b]
    (refine go ?_; intros)
    rw [show pts r (.cells [Value.slice a0 l.length cap, nat64 (rOne l z).2.at', nat64 (rOne l z).2.e].toArray 509 (0, 0)) = rdI r (.slice a0 l.length cap) (rs1 l z) from by rw [e]; rfl]
  rotate_left
  focus
    have a' : ¬ (((rOne l z).2.e : Nat) : Int) = 0 := by omega
    unfold rdI
    (refine go ?_; intros)
    rw [show pts r (.cells [Value.slice a0 l.length cap, nat64 (rOne l z).2.at', nat64 (rOne l z).2.e].toArray 509 (0, 0)) = rdI r (.slice a0 l.length cap) (rs1 l z) from by rw [e]; rfl]
  rotate_left
  all_goals
    unfold connI conn0
    (refine go ?_; intros)
    refine o_evB (ev_cmp rfl rfl rfl) ?_
    (refine go ?_; intros)
    refine o_evB (ev_cmp rfl rfl rfl) ?_
    (refine go ?_; intros)
    refine o_evB (ev_cmp rfl rfl rfl) ?_
    (refine go ?_; intros)
    refine o_evB (ev_cmp rfl rfl rfl) ?_
    (refine go ?_; intros)
    (show wpO _ _ ⟨_, .call _, _, _, _, _⟩ _ _ _ _ _ _; refine o_callA (rd_two hX r (rs1 l z) (rs1_le l z hz) hl) (fun _ _ => ?_); try simp only [List.cons_append, List.nil_append])
    (refine go ?_; intros)
    (show wpO _ _ ⟨_, .call _, _, _, _, _⟩ _ _ _ _ _ _; refine o_callA (rd_textG H V hX hl r (rs2 l z).2 true z2) (fun _ _ => ?_); try simp only [List.cons_append, List.nil_append])
    (refine go ?_; intros)
    refine o_evB (ev_cmp rfl rfl rfl) ?_
    (refine go ?_; intros)
    (show wpO _ _ ⟨_, .call _, _, _, _, _⟩ _ _ _ _ _ _; refine o_callA (rd_textG H V hX hl r (rs3 l z).2 (bitB (rOne l z).1 4) z3) (fun _ _ => ?_); try simp only [List.cons_append, List.nil_append])
    (refine go ?_; intros)
    (show wpO _ _ ⟨_, .call _, _, _, _, _⟩ _ _ _ _ _ _; refine o_callA (rd_textR (Y := own H) hX hl r (rs4 l z).2 (bitB (rOne l z).1 4) z4) (fun _ _ => ?_); try simp only [List.cons_append, List.nil_append])
    (refine go ?_; intros)
    (show wpO _ _ ⟨_, .call _, _, _, _, _⟩ _ _ _ _ _ _; refine o_callA (rd_textG H V hX hl r (rs5 l z).2 (bitB (rOne l z).1 128) z5) (fun _ _ => ?_); try simp only [List.cons_append, List.nil_append])
    (refine go ?_; intros)
    (show wpO _ _ ⟨_, .call _, _, _, _, _⟩ _ _ _ _ _ _; refine o_callA (rd_textR (Y := own H) hX hl r (rs6 l z).2 (bitB (rOne l z).1 64) z6) (fun _ _ => ?_); try simp only [List.cons_append, List.nil_append])
    (refine go ?_; intros)
    unfold rdI
    by_cases he : (rs7 l z).2.e = 0
    · have he' : (((rs7 l z).2.e : Nat) : Int) = 0 := by omega
      by_cases hat : (rs7 l z).2.at' = l.length
      · have hat' : ¬ (((rs7 l z).2.at' : Nat) : Int) ≠ (l.length : Int) := by omega
        have e8 : rs8 l z = (rs7 l z).2 := by unfold rs8; rw [if_neg (fun h => h.2 hat)]
        rw [e8]
        refine wpC_drawnA [pts r (.cells [Value.slice a0 l.length cap, nat64 (rs7 l z).2.at', nat64 (rs7 l z).2.e].toArray 509 (0, 0)), X] 16 ?_
        ((first | refine df 0 ?_ | refine dfs 0 ?_); (first | refine df 1 ?_ | refine dfs 1 ?_); (first | refine df 2 ?_ | refine dfs 2 ?_); (first | refine df 3 ?_ | refine dfs 3 ?_); (first | refine df 4 ?_ | refine dfs 4 ?_); (first | refine df 5 ?_ | refine dfs 5 ?_); (first | refine dt 6 ?_ | refine dts 6 ?_); (first | refine dt 7 ?_ | refine dts 7 ?_); (first | refine dt 8 ?_ | refine dts 8 ?_); (first | refine dt 9 ?_ | refine dts 9 ?_); (first | refine df 10 ?_ | refine dfs 10 ?_); (first | refine df 11 ?_ | refine dfs 11 ?_); (first | refine df 12 ?_ | refine dfs 12 ?_); (first | refine df 13 ?_ | refine dfs 13 ?_); (first | refine df 14 ?_ | refine dfs 14 ?_); (first | refine df 15 ?_ | refine dfs 15 ?_); refine dl ?_)
        (refine go ?_; intros)
        exact q_ret0 rfl () rfl trivial eNT _ (.inr rfl)
      · have hat' : (((rs7 l z).2.at' : Nat) : Int) ≠ (l.length : Int) := by omega
        have e8 : rs8 l z = rFail (rs7 l z).2 4 := by unfold rs8; rw [if_pos ⟨he, hat⟩]
        rw [e8]
        refine wpC_drawnA [pts r (.cells [Value.slice a0 l.length cap, nat64 (rs7 l z).2.at', nat64 (rs7 l z).2.e].toArray 509 (0, 0)), X] 16 ?_
        ((first | refine df 0 ?_ | refine dfs 0 ?_); (first | refine df 1 ?_ | refine dfs 1 ?_); (first | refine df 2 ?_ | refine dfs 2 ?_); (first | refine df 3 ?_ | refine dfs 3 ?_); (first | refine df 4 ?_ | refine dfs 4 ?_); (first | refine df 5 ?_ | refine dfs 5 ?_); (first | refine dt 6 ?_ | refine dts 6 ?_); (first | refine dt 7 ?_ | refine dts 7 ?_); (first | refine dt 8 ?_ | refine dts 8 ?_); (first | refine dt 9 ?_ | refine dts 9 ?_); (first | refine df 10 ?_ | refine dfs 10 ?_); (first | refine df 11 ?_ | refine dfs 11 ?_); (first | refine df 12 ?_ | refine dfs 12 ?_); (first | refine df 13 ?_ | refine dfs 13 ?_); (first | refine df 14 ?_ | refine dfs 14 ?_); (first | refine df 15 ?_ | refine dfs 15 ?_); refine dl ?_)
        (refine go ?_; intros)
        (show wpO _ _ ⟨_, .call _, _, _, _, _⟩ _ _ _ _ _ _; refine o_callA (rd_fail r _ (rs7 l z).2 4) (fun _ _ => ?_); try simp only [List.cons_append, List.nil_append])
        (refine go ?_; intros)
        exact q_ret0 rfl () rfl trivial eNT _ (.inr rfl)
    · have he' : ¬ (((rs7 l z).2.e : Nat) : Int) = 0 := by omega
      have e8 : rs8 l z = (rs7 l z).2 := by unfold rs8; rw [if_neg (fun h => he h.1)]
      rw [e8]
      refine wpC_drawnA [pts r (.cells [Value.slice a0 l.length cap, nat64 (rs7 l z).2.at', nat64 (rs7 l z).2.e].toArray 509 (0, 0)), X] 16 ?_
      ((first | refine df 0 ?_ | refine dfs 0 ?_); (first | refine df 1 ?_ | refine dfs 1 ?_); (first | refine df 2 ?_ | refine dfs 2 ?_); (first | refine df 3 ?_ | refine dfs 3 ?_); (first | refine df 4 ?_ | refine dfs 4 ?_); (first | refine df 5 ?_ | refine dfs 5 ?_); (first | refine dt 6 ?_ | refine dts 6 ?_); (first | refine dt 7 ?_ | refine dts 7 ?_); (first | refine dt 8 ?_ | refine dts 8 ?_); (first | refine dt 9 ?_ | refine dts 9 ?_); (first | refine df 10 ?_ | refine dfs 10 ?_); (first | refine df 11 ?_ | refine dfs 11 ?_); (first | refine df 12 ?_ | refine dfs 12 ?_); (first | refine df 13 ?_ | refine dfs 13 ?_); (first | refine df 14 ?_ | refine dfs 14 ?_); (first | refine df 15 ?_ | refine dfs 15 ?_); refine dl ?_)
      (refine go ?_; intros)
      exact q_ret0 rfl () rfl trivial eNT _ (.inr rfl)
end Go.Proofs.YtnaabpfpldelmaaGreatDoor
