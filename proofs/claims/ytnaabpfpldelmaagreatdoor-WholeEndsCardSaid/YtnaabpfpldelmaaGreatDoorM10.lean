/-
  Deferred calls: what such a call does, how it is noted, when it is made. No program in sight.
  Bytes: a text's bytes as a row, texts out of rows, rows out of texts. No program in sight.
  Undecided tests: both ways are followed. No program in sight.
  A region: blocks that hold rows of known shapes. No program in sight.
-/
import Derived.Test.YtnaabpfpldelmaaGreatDoorM09
import Derived.Defers
import Derived.Laws.IdiomStrings
import Derived.Laws.BytesArg
import Derived.Deep.AppendSrc
set_option linter.unusedSimpArgs false
set_option linter.unusedVariables false
namespace Go.Sx
open Go Go.Conc
variable {P : Program} {ops : Array Oper} {Q : Exit → Act → World → Prop} {c : Cx} {n : Nat} {L : Env} {M : List HProp} {rest : List Oper} {o : Oper}
variable {dst : Option Nat} {ty : TypeId} {pos : String} {after : Array Edge} {g : Option (Nat × Bool)}
structure DefDoes {σ : Type} (P : Program) (f : FuncId) (args : List Value) (A : List HProp) (φ : σ → Prop) (B : σ → List HProp) : Prop where
  may : Callable P f
  does : ∀ w h, sepL A h → PHeap.le h (ph w) → ∀ (fr : Frame) (cs : List Frame), fr.mode = .returning →
    ∃ y w', φ y ∧ HSt (Cx.of w fun b => h b ≠ none) (B y) w' ∧ Steps P (lone (Frame.enter P f args.toArray .deferred) (fr :: cs) w) (lone fr cs w')
theorem defers_of {σ : Type} {f : FuncId} {fn : Func} {x : Code} {args : List Value} {A : List HProp} {φ : σ → Prop} {val : σ → Value} {B : σ → List HProp}
    (hf : P.funcs[f]? = some fn) (hname : (fn.name == "runtime.NumGoroutine") = false) (hb : fn.body = some x) (hn : fn.ntmps = n) (ha : Nat.ble args.length n = true) (hL : enum 0 args = L)
    (h : ∀ c : Cx, c.rnd = none → c.ds = [] → wpC P x (fnPostM P fn (PostS c φ val B)) c n L A) : DefDoes P f args A φ B := ⟨callable hf hname hb, fun w hh a l fr cs hfr => by
  subst hL
  have hs : St (Cx.of w fun b => hh b ≠ none) n (enum 0 args) A (args.toArray ++ Array.replicate (fn.ntmps - args.toArray.size) undef) w := by
    refine ⟨?_, ?_, Fr.refl _ _, hh, a, l, fun b hb => .inl hb⟩
    · have : args.length ≤ n := Nat.le_of_ble_eq_true ha
      simp [hn]; omega
    · intro k v e
      obtain ⟨_, h2⟩ := enum_get e
      simp only [Nat.sub_zero] at h2
      have : k < args.length := (List.getElem?_eq_some_iff.1 h2).1
      rw [Array.getElem?_append_left (by simpa using this)]
      simpa using h2
  let b : Frame := { (default : Frame) with fn := f, kind := .deferred, roundOf := none }
  have henter : Frame.enter P f args.toArray .deferred = b.atR { tmps := args.toArray ++ Array.replicate (fn.ntmps - args.toArray.size) undef, defers := [] } [.code x] := by
    simp [Frame.enter, Frame.atR, hf, hb, b]
  have hset : ({ fr with mode := settle fr.mode } : Frame) = fr := by
    rw [hfr]; cases fr; simp only at hfr; subst hfr; rfl
  obtain ⟨e, a', w', hq, harr⟩ := h (Cx.of w fun b => hh b ≠ none) rfl rfl _ w hs b [] (fr :: cs) rfl
  rw [henter]
  cases e with
  | normal =>
    obtain ⟨w2, ⟨v, hr, y, hy, _, hst2⟩, hst⟩ := leave_steps a'.defers w' { b.atR a' [] with mode := .returning } (fr :: cs) hq rfl rfl
    have h2 := step_going_returned (P := P) (fr := { { b.atR a' [] with mode := .returning } with defers := [] }) (c := fr) (cs := cs) (w := w2) (v := v) rfl ⟨rfl, rfl, fn, hf, hr⟩
    rw [hset] at h2
    exact ⟨y, w2, hy, hst2, Steps.trans harr (Steps.trans (.one (stepR_end rfl)) (Steps.trans hst (.one h2)))⟩
  | ret =>
    obtain ⟨k1, hs1⟩ := harr
    obtain ⟨w2, ⟨v, hr, y, hy, _, hst2⟩, hst⟩ := leave_steps a'.defers w' { b.atR a' (.code .ret :: k1) with mode := .returning } (fr :: cs) hq rfl rfl
    have h2 := step_going_returned (P := P) (fr := { { b.atR a' (.code .ret :: k1) with mode := .returning } with defers := [] }) (c := fr) (cs := cs) (w := w2) (v := v) rfl ⟨rfl, rfl, fn, hf, hr⟩
    rw [hset] at h2
    exact ⟨y, w2, hy, hst2, Steps.trans hs1 (Steps.trans (.one (stepR_ret rfl)) (Steps.trans hst (.one h2)))⟩
  | panic chain => exact harr.elim
  | exit id => exact hq.elim
  | goto l => exact hq.elim
  | outgrown => exact harr.elim⟩
abbrev defCall (f : FuncId) (cap args : List Value) : Deferred := { target := .fn (.func f) cap.toArray, args := args.toArray }
abbrev Cx.push (c : Cx) (d : Deferred) : Cx := { c with ds := d :: c.ds }
theorem wpI_defer {r0 : Option Nat} {i : Nat} {rest : List Nat} {a : Act} {w w' : World} {o : Oper} {d : Deferred} (ho : ops[i]? = some o) (hw : Region.wanted o (yielded ops a.tmps) = true)
    (hr : (execOp a.eval o).run P w = .ok (.defer d) w') (h : wpI r0 P ops Q rest (({ a with defers := d :: a.defers } : Act).put o.dst undef) w') (h0 : r0 = none) : wpI r0 P ops Q (i :: rest) a w := wpI_step (fun b k cs hb => by
  subst h0
  refine .one (step_lone_go ?_)
  have hf : ({ b.atR a (.inRegion ops (i :: rest) :: k) with defers := d :: a.defers } : Frame).finish undef =
      b.atR ({ a with defers := d :: a.defers }.put o.dst undef) (.inRegion ops rest :: k) := by
    have := Frame.finish_atR b { a with defers := d :: a.defers } ops i rest k undef
    rw [ho] at this; exact this
  rw [stepGR_op ho hw, hb]
  simp only [Oper.semAt_none, stepG.apply, Sem.runT_eq, hr, GStep.bare_after]
  exact congrArg (fun fr => GStep.go { frame := fr, callers := cs, status := .running, dying := none } w') hf) h
theorem o_defer {x : Operand} {xs : List Operand} {ats : Array TypeId} {f : FuncId} {cap args : List Value} (hr : c.rnd = none) (hf : opnd L x = some (.func (.func f) #[] cap.toArray)) (hx : opnds L xs = some args)
    (h : wpE P ops rest Q (c.push (defCall f cap args)) n L M) :
    wpO P ops ⟨none, .defer { callee := .value x, args := xs.toArray, argTypes := ats }, ty, pos, after, g⟩ rest Q c n L M := fun i hi T w s hw => by
  obtain ⟨h1, h2⟩ := drop_cons hi
  have hrun : (execOp (Act.eval ⟨T, c.ds⟩) ⟨none, .defer { callee := .value x, args := xs.toArray, argTypes := ats }, ty, pos, after, g⟩).run P w = .ok (.defer (defCall f cap args)) w := by
    have e1 := opnds_eval (ds := c.ds) s.slots hx
    have e2 := opnd_eval (ds := c.ds) s.slots hf
    simp only [execOp, resolve, e2, Deferred.ofValue, Sem.run_bind, Sem.run_pure, Result.andThen_ok, List.map_toArray, e1]
    simp
  have := h (i + 1) h2 T w ⟨s.size, s.slots, s.heap⟩
  exact wpI_defer (i := i) (a := ⟨T, c.ds⟩) (by simpa using h1) hw hrun (by simpa [Act.put] using this) hr
theorem qm_defer {σ : Type} {fn : Func} {R : Ending → World → Prop} {f : FuncId} {cap args : List Value} {A N : List HProp} {φ : σ → Prop} {B : σ → List HProp} {e : Exit}
    (S : DefDoes P f (args ++ cap) A φ B) (hp : Ent M (A ++ N)) (he : e = .ret ∨ e = .normal) (h : ∀ y, φ y → qE (fnPostM P fn R) e c n L (B y ++ N)) : qE (fnPostM P fn R) e (c.push (defCall f cap args)) n L M := fun T w s => by
  have key : leaveRun P (defCall f cap args :: c.ds) w (fun w' => ∃ v, (results fn T).run P w' = .ok v w' ∧ R (.returned v) w') := by
    refine .inr fun fr cs hm hd => ?_
    obtain ⟨f', hh, m, l, dd⟩ := (show HSt c M w from s.heap)
    obtain ⟨ha, hr', a, r, dj, l1, l2⟩ := sepL_append (hp _ m)
    obtain ⟨y, w1, hy, hst, hs⟩ := S.does w ha a (PHeap.le_trans l1 l) { fr with defers := c.ds } cs hm
    have hst' := HSt.call f' l dd r dj l1 l2 hst
    have := h y hy T w1 ⟨s.size, s.slots, hst'⟩
    have hinv : (invoke (defCall f cap args).target (defCall f cap args).args).run P w = .ok (.enter f (args ++ cap).toArray) w := by
      have := S.may (args ++ cap).toArray w
      simpa [invoke] using this
    have h1 := step_defer (P := P) (cs := cs) (fr := fr) (by rw [hm]; exact fun e => by cases e) hd rfl hinv
    refine ⟨w1, ?_, .head h1 hs⟩
    rcases he with rfl | rfl <;> exact this
  rcases he with rfl | rfl <;> exact key
end Go.Sx
set_option linter.unusedSimpArgs false
set_option linter.unusedVariables false
namespace Go.Sx
open Go Go.Conc
variable {P : Program} {ops : Array Oper} {Q : Exit → Act → World → Prop} {c : Cx} {n : Nat} {L : Env} {M : List HProp} {rest : List Oper}
variable {dst : Option Nat} {ty : TypeId} {pos : String} {after : Array Edge} {g : Option (Nat × Bool)}
def u8s (l : List UInt8) : List Value := l.map fun b => Value.int .u8 b.toNat
theorem u8s_length (l : List UInt8) : (u8s l).length = l.length := by simp [u8s]
theorem u8s_get {l : List UInt8} {i : Nat} {u : UInt8} (h : l[i]? = some u) : (u8s l)[i]? = some (.int .u8 u.toNat) := by simp [u8s, h]
theorem u8s_one (l : List UInt8) : (u8s l).all (·.oneCell') = true := by
  simp only [u8s, List.all_map, List.all_eq_true]
  intro x _; rfl
theorem u8s_take (l : List UInt8) (k : Nat) : (u8s l).take k = u8s (l.take k) := by simp [u8s, List.map_take]
theorem u8s_drop (l : List UInt8) (k : Nat) : (u8s l).drop k = u8s (l.drop k) := by simp [u8s, List.map_drop]
theorem u8s_append (l k : List UInt8) : u8s (l ++ k) = u8s l ++ u8s k := by simp [u8s]
abbrev txt (l : List UInt8) : ByteArray := ⟨l.toArray⟩
theorem txt_size (l : List UInt8) : (txt l).size = l.length := by simp [ByteArray.size]
theorem txt_data (s : ByteArray) : txt s.data.toList = s := by cases s; rfl
abbrev Bs (X : HProp) (v : Value) (l : List UInt8) : Prop := Rd X 1 v l.length (u8s l)
theorem Bs.part {X : HProp} {l : List UInt8} {a : Option Addr} {cap : Nat} (hr : Bs X (.slice a l.length cap) l) {i k : Nat} (h : i + k ≤ l.length) : Bs X (.slice (if cap = i then a else a.map fun x => x.add (i * 1)) k (cap - i)) ((l.drop i).take k) := by
  have h1 := Rd.drop hr (k := i) (by omega)
  rw [Nat.mul_one, u8s_drop] at h1
  have h2 := Rd.take (k := k) (m := l.length - i) h1 (by omega)
  rw [Nat.mul_one, u8s_take] at h2
  have h3 : ((l.drop i).take k).length = k := by rw [List.length_take, List.length_drop]; omega
  unfold Bs
  rw [h3]
  simpa using h2
theorem Bs.from {X : HProp} {l : List UInt8} {a : Option Addr} {cap : Nat} (hr : Bs X (.slice a l.length cap) l) {i : Nat} (h : i ≤ l.length) : Bs X (.slice (if cap = i then a else a.map fun x => x.add (i * 1)) (l.length - i) (cap - i)) (l.drop i) := by
  have h1 := Rd.drop hr (k := i) h
  rw [Nat.mul_one, u8s_drop] at h1
  unfold Bs
  rw [List.length_drop]
  simpa using h1
theorem ev_slcLoHi {t e : TypeId} {x lo hi : Operand} {l m len cap : Nat} {k1 k2 : IntKind} {j1 j2 : Int} {ei : TypeInfo} {a : Option Addr} (s : Nat) (hx : opnd L x = some (.slice a len cap)) (hl : opnd L lo = some (.int k1 j1)) (hh : opnd L hi = some (.int k2 j2)) (hu : P.underlying t = some (.slice e)) (he : P.info? e = some ei) (hs : Nat.beq ei.size s = true) (hj1 : j1 = (l : Int)) (hj2 : j2 = ((l + m : Nat) : Int)) (h2 : l + m ≤ cap) :
    Ev P ⟨dst, .slice t x (some lo) (some hi) none, ty, pos, after, g⟩ c n L M (.slice (if cap = l then a else a.map fun x => x.add (l * s)) m (cap - l)) := fun T w st => by
  obtain rfl : ei.size = s := Nat.eq_of_beq_eq_true hs
  have e1 : ∀ cd, (Instr.sliceBound (.int k1 j1) (l + m) cd).run P w = .ok l w := fun cd => run_bound hj1 (by omega)
  have e2 : ∀ cd, (Instr.sliceBound (.int k2 j2) cap cd).run P w = .ok (l + m) w := fun cd => run_bound hj2 h2
  have e3 : l + m - l = m := by omega
  simp only [execOp, opnd_eval st.slots hx, opnd_eval st.slots hl, opnd_eval st.slots hh, Instr.sliceAt, Instr.slice, Instr.sliceBounds, Option.map_some, Option.map_none, Sem.run_bind, run_underlying hu, Sem.run_pure, Result.andThen_ok, e1, e2, e3, sizeOf, typeInfo, run_program, he, Option.isSome_none, Bool.false_eq_true, if_false]
theorem ev_str {src d e : TypeId} {x : Operand} {X : HProp} {v : Value} {l : List UInt8} {R : List HProp} (hx : opnd L x = some v) (hu : P.underlying src = some (.slice e)) (he : P.underlying e = some (.int .u8)) (hd : P.underlying d = some .string)
    (hr : Bs X v l) (hp : Pick M X R) : Ev P ⟨dst, .convert src d x, ty, pos, after, g⟩ c n L M (.string (txt l)) := fun T w s => by
  obtain ⟨e1, e2, e3⟩ := hr.open hp w s.heap
  rcases e3 with ⟨rfl, h0⟩ | ⟨a, cap, rfl, hc, _, k⟩
  · have : l = [] := List.eq_nil_of_length_eq_zero h0
    subst this
    simp only [execOp, opnd_eval s.slots hx, Sem.run_bind, run_convert_bytes_nil w src e hu he _ _ d hd, Result.andThen_ok, Sem.run_pure]
    rfl
  · have := run_convert_bytes_back w src d e a cap l hu he hd (fun j hj => k j _ (by
      have : l[j]? = some l[j] := List.getElem?_eq_getElem hj
      exact u8s_get this))
    simp only [execOp, opnd_eval s.slots hx, Sem.run_bind, this, Result.andThen_ok, Sem.run_pure]
def bsI (v : Value) (l : List UInt8) : HProp := fun h => ∃ b cap junk e f, v = .slice (some ⟨b, 0, none⟩) l.length cap ∧ l.length ≤ cap ∧ h = single b (.cells (u8s l ++ junk).toArray e f)
theorem Bs.ofBsI {v : Value} {l : List UInt8} : Bs (bsI v l) v l := fun h ⟨b, cap, junk, e, f, h1, h2, h3⟩ => by
  subst h1 h3
  refine ⟨by rw [u8s_length, Nat.mul_one], u8s_one l, .inr ⟨_, cap, rfl, h2, fun _ => rfl, fun j u hu => ?_⟩⟩
  have hj : j < (u8s l).length := (List.getElem?_eq_some_iff.1 hu).1
  rw [add_lit]
  simp [PHeap.cell?, single, List.getElem?_append_left hj, hu]
theorem o_bytesOf {d : Nat} {src t e : TypeId} {x : Operand} {s : ByteArray} (hx : opnd L x = some (.string s)) (hs : P.underlying src = some .string) (ht : P.underlying t = some (.slice e)) (he : P.underlying e = some (.int .u8)) (hd : Nat.blt d n = true)
    (h : ∀ v, wpE P ops rest Q c n ((d, v) :: L) (bsI v s.data.toList :: M)) : wpO P ops ⟨some d, .convert src t x, ty, pos, after, g⟩ rest Q c n L M :=
  o_val rfl hd fun T w st => by
    have hr := run_bytes_of_string w src t e s hs ht he
    have hr' : (execOp (Act.eval ⟨T, c.ds⟩) ⟨some d, .convert src t x, ty, pos, after, g⟩).run P w = .ok (.value (.slice (some ⟨w.heap.size, 0, none⟩) s.size (grownCap w s.size 0 e))) (w.drew.alloc (.cells (bytesRow s (grownCap w s.size 0 e)) e ((bytesRow s (grownCap w s.size 0 e)).size, (bytesRow s (grownCap w s.size 0 e)).size + 1))) := by
      simp only [execOp, opnd_eval st.slots hx, Sem.run_bind, hr, Result.andThen_ok, Sem.run_pure]
    refine ⟨_, _, _, bsI (Value.slice (some ⟨w.heap.size, 0, none⟩) s.size (grownCap w s.size 0 e)) s.data.toList :: M, hr', ?_, rfl, h _⟩
    have h0 := HSt.new (w' := w.drew.alloc (.cells (bytesRow s (grownCap w s.size 0 e)) e ((bytesRow s (grownCap w s.size 0 e)).size, (bytesRow s (grownCap w s.size 0 e)).size + 1))) (HSt.same (w' := w.drew) st.heap rfl rfl rfl rfl) _ rfl rfl rfl rfl
    refine HSt.ent (fun hh ss => ?_) h0
    obtain ⟨h1, h2, a, b, dj, l1, l2⟩ := ss
    refine ⟨h1, h2, ?_, b, dj, l1, l2⟩
    refine ⟨w.heap.size, grownCap w s.size 0 e, (Array.replicate (grownCap w s.size 0 e - s.size) (Value.int .u8 0)).toList, e, ((bytesRow s (grownCap w s.size 0 e)).size, (bytesRow s (grownCap w s.size 0 e)).size + 1), ?_, ?_, ?_⟩
    · rw [show s.data.toList.length = s.size from Array.length_toList]
    · rw [show s.data.toList.length = s.size from Array.length_toList]
      exact grownCap_ge _ _ _ _
    · rw [show (u8s s.data.toList ++ (Array.replicate (grownCap w s.size 0 e - s.size) (Value.int .u8 0)).toList).toArray = bytesRow s (grownCap w s.size 0 e) from by
        apply Array.ext'
        simp [bytesRow, u8s]]
      exact a
theorem src_str {tx : TypeId} {s : ByteArray} (hk : P.underlying tx = some .string) : ∀ w, HSt c M w → Src P 1 tx (.string s) s.size (u8s s.data.toList) w := fun w _ => by
  have := Src.ofString (P := P) (w := w) hk s
  exact this
variable {S : List HProp} {m r fuel : Nat} {listed : Array Bool}
theorem dcallV (i : Nat) {σ : Type} {d : Nat} {f : FuncId} {x : Operand} {xs : List Operand} {ats : Array TypeId} {ty : TypeId} {pos : String} {after : Array Edge} {guard : Option (Nat × Bool)}
    {args fr : List Value} {A R : List HProp} {φ : σ → Prop} {val : σ → Value} {B : σ → List HProp}
    (S' : FnDoes P f (args ++ fr) A φ val B) (h : ∀ y, φ y → wpD P ops S m r fuel (listed.setIfInBounds i true) Q c n ((d, val y) :: L) (B y ++ R))
    (hi : ops[i]? = some ⟨some d, .call { callee := .value x, args := xs.toArray, argTypes := ats }, ty, pos, after, guard⟩ := by rfl)
    (hf : opnd L x = some (.func (.func f) #[] fr.toArray) := by rfl)
    (hg : wantB ops ⟨some d, .call { callee := .value x, args := xs.toArray, argTypes := ats }, ty, pos, after, guard⟩ L = true := by rfl) (hr : Region.ready .any ops listed = [i] := by decide +kernel) (hx : opnds L xs = some args := by rfl) (hp : Ent M (A ++ R) := by exact Picks.ent pKS)
    (he : ∀ y, φ y → Ent (B y ++ R) S := by (intro y hy; exact eNT)) (hd : Nat.blt d n = true := by rfl) : wpD P ops S m r (fuel + 1) listed Q c n L M := fun T w s => by
  refine ⟨by rw [hr]; simp, fun j hj => ?_⟩
  rw [hr] at hj
  obtain rfl : j = i := by simpa using hj
  have hrun : (execOp (Act.eval ⟨T, c.ds⟩) ⟨some d, .call { callee := .value x, args := xs.toArray, argTypes := ats }, ty, pos, after, guard⟩).run P w = .ok (.enter f (args ++ fr).toArray) w := by
    have e1 := opnds_eval (ds := c.ds) s.slots hx
    have e2 := opnd_eval (ds := c.ds) s.slots hf
    have := S'.may (args ++ fr).toArray w
    simp only [execOp, resolve, e2, Deferred.ofValue, Sem.run_bind, Sem.run_pure, Result.andThen_ok, invoke, List.map_toArray, e1]
    simpa using this
  unfold wpOp
  simp only [hi]
  rw [if_pos (wanted_of hg s.slots)]
  refine .inl ?_
  unfold Oper.wp
  rw [hrun]
  intro cs
  obtain ⟨f', hh, m, l, dd⟩ := s.heap
  obtain ⟨ha, hr', a, r, dj, l1, l2⟩ := sepL_append (hp _ m)
  obtain ⟨e, w2, fr, ⟨y, hy, he', hst⟩, hcm, hfr, hl⟩ := S'.does w ha a (PHeap.le_trans l1 l) cs
  refine ⟨e, w2, fr, ?_, hcm, hfr, hl⟩
  subst he'
  have hst' := HSt.call f' l dd r dj l1 l2 hst
  refine ⟨HSt.ent (he y hy) hst', ?_⟩
  have := h y hy (T.setIfInBounds d (val y)) w2 ⟨by simp [s.size], s.slots.put s.size hd _, hst'⟩
  simpa [Act.put] using this
theorem q_retAC {σ : Type} {fn : Func} {φ : σ → Prop} {val : σ → Value} {B : σ → List HProp} {a1 a2 b1 b2 : Nat} {t1 t2 T1 T2 : TypeId} {f1 f2 : Nat × Nat} {l1 : List Value} {v2 : Value} {R1 R2 : List HProp} {d1 d2 : TypeDesc} {i1 : TypeInfo} (hr : fn.results = #[.cell a1 t1, .cell a2 t2]) (h1 : L.get a1 = some (.pointer (some ⟨b1, 0, none⟩))) (h2 : L.get a2 = some (.pointer (some ⟨b2, 0, none⟩)))
    (hu1 : P.underlying t1 = some d1) (hg1 : aggD d1 = true) (hi1 : P.info? t1 = some i1) (hs : l1.length = i1.size) (hu2 : P.underlying t2 = some d2) (hg2 : aggD d2 = false) (hp1 : Pick M (pts b1 (.cells l1.toArray T1 f1)) R1) (hp2 : Pick M (pts b2 (.cells [v2].toArray T2 f2)) R2) (y : σ) (hv : Value.tuple #[.agg l1.toArray, v2] = val y) (hy : φ y) (hM : Ent M (B y)) :
    qE (fnPost c P fn (PostS c φ val B)) .ret c n L M := fun T w s => by
  have e1 := s.slots _ _ h1
  have e2 := s.slots _ _ h2
  have l1' := run_loadVar_agg (P := P) (b := b1) (off := 0) hu1 hg1 hi1 hs (w := w) (fun j v e => by rw [cell_pts (s.heap.pts hp1)]; simpa using e)
  have l2 := run_loadVar_one (P := P) (a := ⟨b2, 0, none⟩) (v := v2) (w := w) hu2 hg2 (by rw [cell_pts (s.heap.pts hp2)]; rfl)
  exact ⟨rfl, .tuple #[.agg l1.toArray, v2], by simp [results, hr, e1, e2, asAddr, l1', l2], y, hy, by rw [hv], s.heap.ent hM⟩
theorem q_retATT {σ : Type} {fn : Func} {φ : σ → Prop} {val : σ → Value} {B : σ → List HProp} {a1 b1 t x : Nat} {t1 T1 : TypeId} {f1 : Nat × Nat} {l1 : List Value} {v v' : Value} {R1 : List HProp} {d1 : TypeDesc} {i1 : TypeInfo} (hr : fn.results = #[.cell a1 t1, .tmp t, .tmp x]) (h1 : L.get a1 = some (.pointer (some ⟨b1, 0, none⟩))) (ht : L.get t = some v) (hx : L.get x = some v')
    (hu1 : P.underlying t1 = some d1) (hg1 : aggD d1 = true) (hi1 : P.info? t1 = some i1) (hs : l1.length = i1.size) (hp1 : Pick M (pts b1 (.cells l1.toArray T1 f1)) R1) (y : σ) (hv : Value.tuple #[.agg l1.toArray, v, v'] = val y) (hy : φ y) (hM : Ent M (B y)) :
    qE (fnPost c P fn (PostS c φ val B)) .ret c n L M := fun T w s => by
  have e1 := s.slots _ _ h1
  have e2 := s.slots _ _ ht
  have e3 := s.slots _ _ hx
  have l1' := run_loadVar_agg (P := P) (b := b1) (off := 0) hu1 hg1 hi1 hs (w := w) (fun j v e => by rw [cell_pts (s.heap.pts hp1)]; simpa using e)
  exact ⟨rfl, .tuple #[.agg l1.toArray, v, v'], by simp [results, hr, e1, e2, e3, asAddr, l1'], y, hy, by rw [hv], s.heap.ent hM⟩
end Go.Sx
set_option linter.unusedSimpArgs false
set_option linter.unusedVariables false
namespace Go.Sx
open Go Go.Conc
variable {P : Program} {ops : Array Oper} {Q : Exit → Act → World → Prop} {c : Cx} {n : Nat} {L : Env} {M : List HProp} {rest : List Oper}
variable {ty : TypeId} {pos : String} {after : Array Edge} {g : Option (Nat × Bool)}
attribute [local irreducible] MidQ wpE wpO wpC qE wpQ wpQO wpH wpHO wpD wpDO wpZ Ev own emp exI sl ch PostS LoopQ Rd rowsAt
theorem o_cmpS {d : Nat} {op : BinOp} {t t' : TypeId} {x y : Operand} {k : IntKind} {a b : Int} (ht : cmpP op a b → wpE P ops rest Q c n ((d, .bool true) :: L) M) (hf : ¬ cmpP op a b → wpE P ops rest Q c n ((d, .bool false) :: L) M)
    (hx : opnd L x = some (.int k a) := by rfl) (hy : opnd L y = some (.int k b) := by rfl) (hc : isCmp op = true := by rfl) (hd : Nat.blt d n = true := by rfl) : wpO P ops ⟨some d, .binOp op t x y t', ty, pos, after, g⟩ rest Q c n L M := by
  by_cases h : cmpP op a b
  · exact o_evB (ev_cmp_t hx hy hc h) (ht h) rfl hd
  · exact o_evB (ev_cmp_f hx hy hc h) (hf h) rfl hd
theorem o_strS {d : Nat} {t t' : TypeId} {x y : Operand} {a b : ByteArray} (ht : a = b → wpE P ops rest Q c n ((d, .bool true) :: L) M) (hf : ¬ a = b → wpE P ops rest Q c n ((d, .bool false) :: L) M)
    (hx : opnd L x = some (.string a) := by rfl) (hy : opnd L y = some (.string b) := by rfl) (hd : Nat.blt d n = true := by rfl) : wpO P ops ⟨some d, .binOp .eql t x y t', ty, pos, after, g⟩ rest Q c n L M := by
  by_cases h : a = b
  · exact o_evB (ev_eq_str hx hy (by rw [decide_eq_true h]; rfl)) (ht h) rfl hd
  · exact o_evB (ev_eq_str hx hy (by rw [decide_eq_false h]; rfl)) (hf h) rfl hd
theorem o_strN {d : Nat} {t t' : TypeId} {x y : Operand} {a b : ByteArray} (ht : ¬ a = b → wpE P ops rest Q c n ((d, .bool true) :: L) M) (hf : a = b → wpE P ops rest Q c n ((d, .bool false) :: L) M)
    (hx : opnd L x = some (.string a) := by rfl) (hy : opnd L y = some (.string b) := by rfl) (hd : Nat.blt d n = true := by rfl) : wpO P ops ⟨some d, .binOp .neq t x y t', ty, pos, after, g⟩ rest Q c n L M := by
  by_cases h : a = b
  · exact o_evB (ev_eq_str hx hy (by rw [decide_eq_true h]; rfl)) (hf h) rfl hd
  · exact o_evB (ev_eq_str hx hy (by rw [decide_eq_false h]; rfl)) (ht h) rfl hd
theorem wpC_condS {x : Operand} {t e : Code} {b : Bool} (ht : b = true → wpC P t Q c n L M) (he : b = false → wpC P e Q c n L M) (hx : opnd L x = some (.bool b) := by rfl) : wpC P (.cond x t e) Q c n L M := wpC_cond hx ht he
end Go.Sx
set_option linter.unusedSimpArgs false
set_option linter.unusedVariables false
namespace Go.Sx
open Go Go.Conc
inductive CT
  | int (k : IntKind)
  | bool
  | str
  | slc (e : TypeId)
  | one
  | pos
abbrev Shp := TypeId → List CT
abbrev Rho := Nat → Option (TypeId × Nat × Nat)
def Rho.le (a b : Rho) : Prop := ∀ k e u t, a k = some (e, u, t) → ∃ u', u ≤ u' ∧ b k = some (e, u', t)
theorem Rho.le_refl (a : Rho) : Rho.le a a := fun _ _ u _ h => ⟨u, Nat.le_refl _, h⟩
theorem Rho.le_trans {a b c : Rho} (h : Rho.le a b) (k : Rho.le b c) : Rho.le a c := fun x y u t e => by
  obtain ⟨u1, h1, h2⟩ := h x y u t e
  obtain ⟨u2, h3, h4⟩ := k x y u1 t h2
  exact ⟨u2, Nat.le_trans h1 h3, h4⟩
def big : Nat := 65536
def okSl (S : Shp) (ρ : Rho) (e : TypeId) (v : Value) (len : Nat) : Prop :=
  (v = .slice none 0 0 ∧ len = 0) ∨ ∃ b off cap used tot, v = .slice (some ⟨b, off * (S e).length, none⟩) len cap ∧ len ≤ cap ∧ ρ b = some (e, used, tot) ∧ off + len ≤ used ∧ off + cap ≤ tot
def okC (S : Shp) (ρ : Rho) : CT → Value → Prop
  | .int k, v => ∃ n, v = .int k n ∧ k.wrap n = n
  | .bool, v => ∃ b, v = .bool b
  | .str, v => ∃ s, v = .string s ∧ s.size ≤ 65536
  | .slc e, v => ∃ len, okSl S ρ e v len ∧ len ≤ 65536
  | .one, v => v.oneCell' = true
  | .pos, v => ∃ n, v = .int .i64 n ∧ 1 ≤ n ∧ n ≤ 536870911
def okR (S : Shp) (ρ : Rho) : List CT → List Value → Prop
  | [], [] => True
  | c :: cs, v :: vs => okC S ρ c v ∧ okR S ρ cs vs
  | _, _ => False
section
variable {S : Shp} {ρ ρ' : Rho}
theorem okSl.mono {e : TypeId} {v : Value} {len : Nat} (h : okSl S ρ e v len) (l : Rho.le ρ ρ') : okSl S ρ' e v len := by
  rcases h with h | ⟨b, off, cap, used, tot, h1, h2, h3, h4, h5⟩
  · exact .inl h
  · obtain ⟨u', h6, h7⟩ := l _ _ _ _ h3
    exact .inr ⟨b, off, cap, u', tot, h1, h2, h7, by omega, h5⟩
theorem okC.mono {k : CT} {v : Value} (h : okC S ρ k v) (l : Rho.le ρ ρ') : okC S ρ' k v := by
  cases k with
  | slc e => obtain ⟨len, h1, h2⟩ := h; exact ⟨len, h1.mono l, h2⟩
  | _ => exact h
theorem okR.mono : ∀ {cs : List CT} {vs : List Value}, okR S ρ cs vs → Rho.le ρ ρ' → okR S ρ' cs vs
  | [], [], _, _ => trivial
  | _ :: _, _ :: _, ⟨a, b⟩, l => ⟨okC.mono a l, okR.mono b l⟩
  | [], _ :: _, h, _ => h.elim
  | _ :: _, [], h, _ => h.elim
theorem okR.len : ∀ {cs : List CT} {vs : List Value}, okR S ρ cs vs → vs.length = cs.length
  | [], [], _ => rfl
  | _ :: _, _ :: _, ⟨_, b⟩ => by simp [okR.len b]
  | [], _ :: _, h => h.elim
  | _ :: _, [], h => h.elim
theorem okSl.one {e : TypeId} {v : Value} {len : Nat} (h : okSl S ρ e v len) : v.oneCell' = true := by
  rcases h with ⟨rfl, _⟩ | ⟨b, off, cap, used, tot, rfl, _⟩ <;> rfl
theorem okC.one {k : CT} {v : Value} (h : okC S ρ k v) : v.oneCell' = true := by
  cases k with
  | int k => obtain ⟨n, rfl, _⟩ := h; rfl
  | bool => obtain ⟨n, rfl⟩ := h; rfl
  | str => obtain ⟨n, rfl, _⟩ := h; rfl
  | slc e => obtain ⟨n, h, _⟩ := h; exact h.one
  | one => exact h
  | pos => obtain ⟨n, rfl, _⟩ := h; rfl
theorem okR.one : ∀ {cs : List CT} {vs : List Value}, okR S ρ cs vs → vs.all (·.oneCell') = true
  | [], [], _ => rfl
  | _ :: _, _ :: _, ⟨a, b⟩ => by simp [okC.one a, okR.one b]
  | [], _ :: _, h => h.elim
  | _ :: _, [], h => h.elim
theorem okSl.isSlice {e : TypeId} {v : Value} {len : Nat} (h : okSl S ρ e v len) : ∃ a cap, v = .slice a len cap ∧ len ≤ cap := by
  rcases h with ⟨rfl, rfl⟩ | ⟨b, off, cap, used, tot, rfl, h, _⟩
  · exact ⟨none, 0, rfl, Nat.le_refl _⟩
  · exact ⟨_, _, rfl, h⟩
theorem okSl.nil {e : TypeId} : okSl S ρ e (.slice none 0 0) 0 := .inl ⟨rfl, rfl⟩
theorem okSl.pos {e : TypeId} {a : Option Addr} {len cap m : Nat} (h : okSl S ρ e (.slice a len cap) m) (h0 : 0 < len) : ∃ b o, a = some ⟨b, o, none⟩ := by
  rcases h with ⟨h, rfl⟩ | ⟨b, off, cap, used, tot, h, _⟩
  · cases h; omega
  · cases h; exact ⟨_, _, rfl⟩
theorem okSl.part {e : TypeId} {a : Option Addr} {len cap m i k : Nat} (h : okSl S ρ e (.slice a len cap) m) (hk : i + k ≤ len) : okSl S ρ e (.slice (if cap = i then a else a.map fun x => x.add (i * (S e).length)) k (cap - i)) k := by
  rcases h with ⟨h, rfl⟩ | ⟨b, off, cap, used, tot, h, hc, h1, h2, h3⟩
  · cases h; obtain rfl : k = 0 := by omega
    simp; exact .inl ⟨rfl, rfl⟩
  · cases h
    by_cases hci : cap = i
    · rw [if_pos hci]; exact .inr ⟨b, off, _, used, tot, rfl, by omega, h1, by omega, by omega⟩
    · rw [if_neg hci]
      refine .inr ⟨b, off + i, cap - i, used, tot, ?_, by omega, h1, by omega, by omega⟩
      simp [add_lit, Nat.add_mul]
theorem okSl.from {e : TypeId} {a : Option Addr} {len cap m i : Nat} (h : okSl S ρ e (.slice a len cap) m) (hk : i ≤ len) : okSl S ρ e (.slice (if cap = i then a else a.map fun x => x.add (i * (S e).length)) (len - i) (cap - i)) (len - i) := h.part (by omega)
end
structure WT (S : Shp) (ρ : Rho) (H : PHeap) : Prop where
  row : ∀ b e u n, ρ b = some (e, u, n) → ∃ xs, H b = some (.cells (List.toArray xs) e (0, 0)) ∧ xs.length = n * (S e).length ∧ u ≤ n ∧ xs.all (·.oneCell') = true ∧ ∀ i, i < u → okR S ρ (S e) ((xs.drop (i * (S e).length)).take (S e).length)
structure Gr (ρ : Rho) (H : PHeap) (ρ' : Rho) (H' : PHeap) : Prop where
  le : Rho.le ρ ρ'
  keep : ∀ b o, H b = some o → ρ b = none → ρ' b = none ∧ H' b = some o
theorem Gr.refl (ρ : Rho) (H : PHeap) : Gr ρ H ρ H := ⟨Rho.le_refl _, fun _ _ h k => ⟨k, h⟩⟩
theorem Gr.trans {ρ ρ' ρ'' : Rho} {H H' H'' : PHeap} (a : Gr ρ H ρ' H') (b : Gr ρ' H' ρ'' H'') : Gr ρ H ρ'' H'' := ⟨Rho.le_trans a.le b.le, fun x o h k => by
  obtain ⟨h1, h2⟩ := a.keep x o h k
  exact b.keep x o h2 h1⟩
def PHeap.put (H : PHeap) (b : Nat) (o : Obj) : PHeap := fun k => if k = b then some o else H k
def PHeap.del (H : PHeap) (b : Nat) : PHeap := fun k => if k = b then none else H k
theorem own_split {H : PHeap} {b : Nat} {o : Obj} {R : List HProp} (h : H b = some o) : Ent (own H :: R) (pts b o :: own (H.del b) :: R) := fun k s => by
  obtain ⟨h1, h2, a, r, d, l1, l2⟩ := s
  have a' : h1 = H := a
  subst a'
  have g1 : PHeap.le (h1.del b) h1 := fun x y e => by
    unfold PHeap.del at e
    split at e
    · cases e
    · exact e
  have d1 : PHeap.disj (h1.del b) h2 := PHeap.disj_symm (PHeap.disj_le (PHeap.disj_symm d) g1)
  refine ⟨single b o, PHeap.un (h1.del b) h2, rfl, ⟨h1.del b, h2, rfl, r, d1, PHeap.le_un_left _ _, PHeap.le_un_right d1⟩, fun x => ?_, fun x y e => ?_, PHeap.un_le (PHeap.le_trans g1 l1) l2⟩
  · by_cases e : x = b
    · subst e
      refine .inr ?_
      have : h2 x = none := by rcases d x with z | z; rw [h] at z; cases z; exact z
      simp [PHeap.un, PHeap.del, this]
    · exact .inl (by simp [single, e])
  · unfold single at e
    split at e
    · rename_i hx; subst hx; cases e; exact l1 _ _ h
    · cases e
theorem own_join {H : PHeap} {b : Nat} {o : Obj} {R : List HProp} : Ent (pts b o :: own H :: R) (own (H.put b o) :: R) := fun k s => by
  obtain ⟨h1, h2, a, r, d, l1, l2⟩ := s
  obtain ⟨h3, h4, a3, r4, d3, l3, l4⟩ := r
  have a' : h1 = single b o := a
  have a3' : h3 = H := a3
  subst a' a3'
  have hb : h3 b = none := by
    rcases d b with z | z
    · simp [single] at z
    · cases e : h3 b with
      | none => rfl
      | some o => rw [l3 _ _ e] at z; cases z
  refine ⟨h3.put b o, h4, rfl, r4, fun x => ?_, fun x y e => ?_, PHeap.le_trans l4 l2⟩
  · by_cases e : x = b
    · subst e
      refine .inr ?_
      rcases d x with z | z
      · simp [single] at z
      · cases e : h4 x with
        | none => rfl
        | some o => rw [l4 _ _ e] at z; cases z
    · rcases d3 x with z | z
      · exact .inl (by simp [PHeap.put, e, z])
      · exact .inr z
  · unfold PHeap.put at e
    split at e
    · rename_i hx; subst hx; cases e; exact l1 _ _ (by simp [single])
    · exact l2 _ _ (l3 _ _ e)
theorem put_del {H : PHeap} {b : Nat} {o : Obj} : (H.del b).put b o = H.put b o := by
  funext x; unfold PHeap.put PHeap.del; split <;> rfl
section
variable {S : Shp} {ρ : Rho} {H : PHeap}
def Rho.set (ρ : Rho) (b : Nat) (x : TypeId × Nat × Nat) : Rho := fun k => if k = b then some x else ρ k
theorem Rho.le_set {b : Nat} {x : TypeId × Nat × Nat} (h : ρ b = none) : Rho.le ρ (ρ.set b x) := fun k e u t hk => by
  refine ⟨u, Nat.le_refl _, ?_⟩
  unfold Rho.set; split
  · rename_i hb; subst hb; rw [h] at hk; cases hk
  · exact hk
theorem Rho.le_up {b u u' t : Nat} {e : TypeId} (h : ρ b = some (e, u, t)) (hu : u ≤ u') : Rho.le ρ (ρ.set b (e, u', t)) := fun k e1 u1 t1 hk => by
  unfold Rho.set; split
  · rename_i hb; subst hb; rw [h] at hk; cases hk; exact ⟨u', hu, rfl⟩
  · exact ⟨u1, Nat.le_refl _, hk⟩
theorem WT.none_of {b : Nat} (h : WT S ρ H) (hb : H b = none) : ρ b = none := by
  cases e : ρ b with
  | none => rfl
  | some x => obtain ⟨xs, h1, _⟩ := h.row b x.1 x.2.1 x.2.2 e; rw [hb] at h1; cases h1
theorem WT.new {b : Nat} {e : TypeId} {u n : Nat} {xs : List Value} (h : WT S ρ H) (hb : H b = none) (hl : xs.length = n * (S e).length) (hu : u ≤ n) (h1 : xs.all (·.oneCell') = true) (hr : ∀ i, i < u → okR S ρ (S e) ((xs.drop (i * (S e).length)).take (S e).length)) :
    WT S (ρ.set b (e, u, n)) (H.put b (.cells xs.toArray e (0, 0))) ∧ Gr ρ H (ρ.set b (e, u, n)) (H.put b (.cells xs.toArray e (0, 0))) := by
  have hρ := h.none_of hb
  have hle : Rho.le ρ (ρ.set b (e, u, n)) := Rho.le_set hρ
  refine ⟨⟨fun k e' u' n' hk => ?_⟩, hle, fun k o hk h0 => ?_⟩
  · unfold Rho.set at hk
    split at hk
    · rename_i hkb; subst hkb; cases hk
      exact ⟨xs, by simp [PHeap.put], hl, hu, h1, fun i hi => (hr i hi).mono hle⟩
    · rename_i hkb
      obtain ⟨ys, a, a2, a3, a4, a5⟩ := h.row k e' u' n' hk
      exact ⟨ys, by simp [PHeap.put, hkb, a], a2, a3, a4, fun i hi => (a5 i hi).mono hle⟩
  · have hkb : k ≠ b := fun e => by subst e; rw [hb] at hk; cases hk
    exact ⟨by simp [Rho.set, hkb, h0], by simp [PHeap.put, hkb, hk]⟩
theorem WT.upd {b : Nat} {e : TypeId} {u u' n : Nat} {xs : List Value} (h : WT S ρ H) (hb : ρ b = some (e, u, n)) (hu : u ≤ u') (hu' : u' ≤ n) (hl : xs.length = n * (S e).length) (h1 : xs.all (·.oneCell') = true) (hr : ∀ i, i < u' → okR S ρ (S e) ((xs.drop (i * (S e).length)).take (S e).length)) :
    WT S (ρ.set b (e, u', n)) (H.put b (.cells xs.toArray e (0, 0))) ∧ Gr ρ H (ρ.set b (e, u', n)) (H.put b (.cells xs.toArray e (0, 0))) := by
  have hle : Rho.le ρ (ρ.set b (e, u', n)) := Rho.le_up hb hu
  refine ⟨⟨fun k e' u1 n' hk => ?_⟩, hle, fun k o hk h0 => ?_⟩
  · unfold Rho.set at hk
    split at hk
    · rename_i hkb; subst hkb; cases hk
      exact ⟨xs, by simp [PHeap.put], hl, hu', h1, fun i hi => (hr i hi).mono hle⟩
    · rename_i hkb
      obtain ⟨ys, a, a2, a3, a4, a5⟩ := h.row k e' u1 n' hk
      exact ⟨ys, by simp [PHeap.put, hkb, a], a2, a3, a4, fun i hi => (a5 i hi).mono hle⟩
  · have hkb : k ≠ b := fun e => by subst e; rw [hb] at h0; cases h0
    exact ⟨by simp [Rho.set, hkb, h0], by simp [PHeap.put, hkb, hk]⟩
theorem WT.get {e : TypeId} {a : Option Addr} {len cap m i : Nat} (h : WT S ρ H) (hs : okSl S ρ e (.slice a len cap) m) (hi : i < len) :
    ∃ b o vs, a = some ⟨b, o, none⟩ ∧ okR S ρ (S e) vs ∧ ∀ j u, vs[j]? = some u → H.cell? ⟨b, o + i * (S e).length + j, none⟩ = some u := by
  rcases hs with ⟨hs, _⟩ | ⟨b, off, cap', used, tot, hs, hc, h1, h2, h4⟩
  · cases hs; omega
  · cases hs
    obtain ⟨xs, a1, a2, au, ao, a3⟩ := h.row _ _ _ _ h1
    refine ⟨b, off * (S e).length, _, rfl, a3 (off + i) (by omega), fun j u hu => ?_⟩
    have hj : j < (S e).length := by
      have := (List.getElem?_eq_some_iff.1 hu).1
      rw [List.length_take] at this; omega
    rw [List.getElem?_take_of_lt hj, List.getElem?_drop, Nat.add_mul] at hu
    simp [PHeap.cell?, a1, hu]
theorem okSl.rd {e : TypeId} {v : Value} {len : Nat} (h : WT S ρ H) (hs : okSl S ρ e v len) : ∃ xs, Rd (own H) (S e).length v len xs ∧ ∀ i, i < len → okR S ρ (S e) ((xs.drop (i * (S e).length)).take (S e).length) := by
  rcases hs with ⟨rfl, rfl⟩ | ⟨b, off, cap', used, tot, rfl, hc, h1, h2, h4⟩
  · exact ⟨[], Rd.nil, fun i hi => by omega⟩
  · obtain ⟨xs, a1, a2, au, ao, a3⟩ := h.row _ _ _ _ h1
    have hlen : ((xs.drop (off * (S e).length)).take (len * (S e).length)).length = len * (S e).length := by
      rw [List.length_take, List.length_drop, a2, ← Nat.sub_mul]
      exact Nat.min_eq_left (Nat.mul_le_mul_right _ (by omega))
    have hrow : ∀ i, i < len → ((((xs.drop (off * (S e).length)).take (len * (S e).length)).drop (i * (S e).length)).take (S e).length) = (xs.drop ((off + i) * (S e).length)).take (S e).length := fun i hi => by
      have h3 : (i + 1) * (S e).length ≤ len * (S e).length := Nat.mul_le_mul_right _ hi
      rw [Nat.add_mul] at h3
      rw [List.drop_take, List.drop_drop, List.take_take, Nat.add_mul, Nat.min_eq_left (by omega)]
    refine ⟨(xs.drop (off * (S e).length)).take (len * (S e).length), fun hh hq => ?_, fun i hi => ?_⟩
    · have hq' : hh = H := hq
      subst hq'
      refine ⟨hlen, ?_, .inr ⟨_, _, rfl, hc, fun _ => rfl, fun j u hu => ?_⟩⟩
      · rw [List.all_eq_true]
        intro x hx
        obtain ⟨j, hj, hjx⟩ := List.getElem_of_mem hx
        rw [hlen] at hj
        have hpos : 0 < (S e).length := Nat.pos_of_ne_zero (fun hz => by simp [hz] at hj)
        have hi : j / (S e).length < len := (Nat.div_lt_iff_lt_mul hpos).2 hj
        have ho := (a3 (off + j / (S e).length) (by omega)).one
        rw [← hrow _ hi, List.all_eq_true] at ho
        refine ho x ?_
        have hm : j % (S e).length < (S e).length := Nat.mod_lt _ hpos
        have hdm := Nat.div_add_mod j (S e).length
        rw [Nat.mul_comm] at hdm
        apply List.mem_iff_getElem?.2
        refine ⟨j % (S e).length, ?_⟩
        rw [List.getElem?_take_of_lt hm, List.getElem?_drop, hdm, ← hjx, List.getElem?_eq_getElem (by rw [hlen]; exact hj)]
      · have hj : j < len * (S e).length := by rw [← hlen]; exact (List.getElem?_eq_some_iff.1 hu).1
        rw [List.getElem?_take_of_lt hj, List.getElem?_drop] at hu
        simp [add_lit, PHeap.cell?, a1, hu]
    · rw [hrow i hi]; exact a3 (off + i) (by omega)
end
end Go.Sx
