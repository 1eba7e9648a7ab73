/-
  Where the listed variables lie: the start that meets the row's condition, and what the condition gives.
-/
import Derived.Test.YtnaabpfpldelmaaGreatDoorM43
import Derived.Test.YtnaabpfpldelmaaGreatDoorM07
import Derived.Test.YtnaabpfpldelmaaGreatDoorCards
import Derived.LaidMore
import Derived.LaidSub
import Derived.LaidHandle
import Derived.MakeChecks
import Derived.OpenShut
import Derived.Stop.Joined
import Derived.Lib.LaidIn
import Derived.Lib.LaidU8T
import Derived.SevenTiedAt
import Derived.Handed
set_option linter.unusedSimpArgs false
set_option linter.unusedVariables false
set_option maxRecDepth 20000
namespace Go.Proofs.YtnaabpfpldelmaaGreatDoor
open Go Go.Sx
open Go.ChangeShapes Go.WideShapes Go.ChangeAt Go.RowKit Go.Lib
theorem own_knob : ownKnob Tryz.prog.godebug = none := by kernel_rfl
def laidL : List (String × DataW Unit) := [("unicode/utf8.first", Rows.laid_unicode_utf8_first), ("unicode/utf8.acceptRanges", Rows.laid_unicode_utf8_acceptRanges), ("crier/head.may", Rows.laid_crier_head_may), ("crier/space.words", Rows.laid_crier_space_words), ("errors.errorType", Rows.laid_errors_errorType), ("internal/strconv.uint64pow10", Rows.laid_internal_strconv_uint64pow10), ("math/bits.deBruijn32tab", Rows.laid_math_bits_deBruijn32tab), ("math/bits.deBruijn64tab", Rows.laid_math_bits_deBruijn64tab)]
abbrev laidP : List (String × DataW Unit) := [("unicode/utf8.first", Rows.laid_unicode_utf8_first), ("unicode/utf8.acceptRanges", Rows.laid_unicode_utf8_acceptRanges), ("crier/head.may", Rows.laid_crier_head_may), ("crier/space.words", Rows.laid_crier_space_words), ("internal/strconv.uint64pow10", Rows.laid_internal_strconv_uint64pow10), ("math/bits.deBruijn32tab", Rows.laid_math_bits_deBruijn32tab), ("math/bits.deBruijn64tab", Rows.laid_math_bits_deBruijn64tab)]
abbrev laidH : List (String × DataW Unit) := [("errors.errorType", Rows.laid_errors_errorType)]
theorem laid_split : (laidL.filter fun x => x.2.handleName?.isNone) = laidP := by rfl
theorem laid_splitH : (laidL.filter fun x => x.2.handleName?.isSome) = laidH := by rfl
/-- The settled world, the listed variables holding what their initialisers lay. -/
noncomputable def laidW (os : Os) : World :=
  let w0 := World.holding Tryz.prog os ⟨#[], #[], []⟩
  let put (h : Array Obj) (g : Nat) (cs : Array Value) : Array Obj := h.modify g fun
    | .cells _ t frozen => .cells cs t frozen
    | o => o
  let h1 := put w0.heap 3 (Lib.firstTab.map fun z => Value.int .u8 z).toArray
  let h2 := put h1 4 ((List.range 16).flatMap fun i => [Value.int .u8 (Lib.accLo i), Value.int .u8 (Lib.accHi i)]).toArray
  let h3 := put h2 0 (mayL.map Value.bool).toArray
  let h4 := put h3 1 (wordsL.map fun s => Value.string ⟨s.toArray⟩).toArray
  let h5 := put h4 2 [rtV tErr].toArray
  let h6 := put h5 6 ([1, 10, 100, 1000, 10000, 100000, 1000000, 10000000, 100000000, 1000000000, 10000000000, 100000000000, 1000000000000, 10000000000000, 100000000000000, 1000000000000000, 10000000000000000, 100000000000000000, 1000000000000000000, 10000000000000000000].map (Value.int .u64)).toArray
  let h7 := put h6 7 ([0, 1, 28, 2, 29, 14, 24, 3, 30, 22, 20, 15, 25, 17, 4, 8, 31, 27, 13, 23, 21, 19, 16, 7, 26, 12, 18, 6, 11, 5, 10, 9].map (Value.int .u8)).toArray
  let h8 := put h7 8 ([0, 1, 56, 2, 57, 49, 28, 3, 61, 58, 42, 50, 38, 29, 17, 4, 62, 47, 59, 36, 45, 43, 51, 22, 53, 39, 33, 30, 24, 18, 12, 5, 63, 55, 48, 27, 60, 41, 37, 16, 46, 35, 44, 21, 52, 32, 23, 11, 54, 26, 40, 15, 34, 20, 31, 10, 25, 14, 19, 9, 13, 8, 7, 6].map (Value.int .u8)).toArray
  { w0 with heap := h8 }
theorem laid_met (os : Os) (args : Array Value) : laidMetH Tryz.prog laidL ((laidW os).forCall (fun _ _ => 0) ⟨#[], args, []⟩).memory := by
  refine laidMetH_of_parts ?_ (by kernel_rfl)
  rw [laid_split]
  exact (LaidIn.of_run (l := laidP) [3, 4, 0, 1, 6, 7, 8] 8 (by kernel_rfl) (by kernel_rfl) (by kernel_rfl) (by kernel_rfl)).met
theorem first_same : (Rows.laid_unicode_utf8_first : DataW Unit) = Lib.firstData := by kernel_rfl
theorem accept_same : (Rows.laid_unicode_utf8_acceptRanges : DataW Unit) = Lib.acceptData := by kernel_rfl
theorem may_same : (Rows.laid_crier_head_may : DataW Unit) = mayD := by kernel_rfl
theorem words_same : (Rows.laid_crier_space_words : DataW Unit) = wordsD := by kernel_rfl
theorem err_only : ((List.range Tryz.prog.types.size).filter fun t => Tryz.prog.rowNamed t [101, 114, 114, 111, 114]) = [tErr] := by kernel_rfl
theorem err_rt : (Tryz.prog.cutTypes.find? (·.1 == "internal/reflectlite.rtype")).map (·.2) = some tRT := by kernel_rfl
theorem err_of {W : World} (h : handlesMet Tryz.prog laidH W) : W.var? Tryz.prog "errors.errorType" = some #[rtV tErr] := by
  obtain ⟨name, u, ty, e1, e2, e3, e4, e5⟩ := h _ (List.mem_singleton.2 rfl)
  have en : name = [101, 114, 114, 111, 114] := (Option.some.inj e1).symm
  subst en
  obtain rfl := Option.some.inj (err_rt.symm.trans e2)
  have hm : ty ∈ (List.range Tryz.prog.types.size).filter fun t => Tryz.prog.rowNamed t [101, 114, 114, 111, 114] := List.mem_filter.2 ⟨List.mem_range.2 e3, e4⟩
  rw [err_only] at hm
  obtain rfl := List.mem_singleton.1 hm
  exact e5
/-- A variable that the row does not list holds something of its type: here eight numbers. -/
theorem ints_of : ∀ {l : List Value}, (∀ v ∈ l, ∃ n, v = .int .i64 n) → ∃ ks : List Int, l = ks.map (Value.int .i64)
  | [], _ => ⟨[], rfl⟩
  | v :: l, h => by
    obtain ⟨n, rfl⟩ := h v (List.mem_cons_self ..)
    obtain ⟨ks, rfl⟩ := ints_of (l := l) fun x hx => h x (List.mem_cons_of_mem _ hx)
    exact ⟨n :: ks, rfl⟩
theorem kinds_row : ((begin Tryz.prog (fun _ _ => 0) default).world.heap[9]?).bind Obj.row? = some (#[.int .i64 0, .int .i64 0, .int .i64 0, .int .i64 0, .int .i64 0, .int .i64 0, .int .i64 0, .int .i64 0], 96) := by kernel_rfl
theorem kinds_types : Tryz.prog.cellTypes Tryz.prog.depth 96 = some (List.replicate 8 3) := by kernel_rfl
theorem kinds_of {W : World} (h : W.ShapedOpen Tryz.prog) : ∃ ks : List Int, ks.length = 8 ∧ ∃ e f, W.heap[9]? = some (.cells (ks.map (Value.int .i64)).toArray e f) := by
  obtain ⟨cs, h1, h2, h3⟩ := h.1 _ _ _ (show 9 < Tryz.prog.globals.size from of_decide_eq_true (by kernel_rfl)) kinds_row
  obtain ⟨ts, ht, _, hc⟩ := h3 (by kernel_rfl)
  obtain rfl := Option.some.inj (kinds_types.symm.trans ht)
  have h8 : cs.size = 8 := h2
  obtain ⟨ks, hk⟩ := ints_of (l := cs.toList) fun v hv => by
    obtain ⟨i, hi, rfl⟩ := List.mem_iff_getElem.1 hv
    obtain ⟨u, hu, ok⟩ := hc i _ (by rw [← Array.getElem?_toList]; exact List.getElem?_eq_getElem hi)
    have hm : u ∈ List.replicate 8 3 := List.mem_of_getElem? hu
    obtain rfl := (List.mem_replicate.1 hm).2
    unfold Cell.ok at ok
    rw [Tryz.underlying3] at ok
    split at ok <;> simp_all
  have hl : ks.length = 8 := by
    have := congrArg List.length hk
    rw [List.length_map, Array.length_toList, h8] at this
    exact this.symm
  exact ⟨ks, hl, 96, (0, 0), by rw [← hk]; exact h1⟩
theorem start_of {W : World} (h : laidMetH Tryz.prog laidL W) (hs : W.ShapedOpen Tryz.prog) : StartT W := by
  obtain ⟨h1, h2⟩ := laidMetH_iff.1 h
  rw [laid_split] at h1
  rw [laid_splitH] at h2
  unfold laidP at h1
  rw [first_same, accept_same, may_same, words_same] at h1
  refine ⟨laidMet.reads h1 (by simp), kinds_of hs, laidMet.reads h1 (by simp), err_of h2, ?_⟩
  exact utf8Tabs_of_readsT (U8Types.of196 Tryz.laysValid) ⟨by kernel_rfl, by kernel_rfl, by kernel_rfl, by kernel_rfl, by kernel_rfl, by kernel_rfl, by kernel_rfl⟩ (laidMet.reads h1 (by simp)) (laidMet.reads h1 (by simp))
/-- As the kit's law for a row that lists variables; the walk may also use that every variable holds something of its type. -/
theorem returns_shaped {H : Type} {enc : TypeId × Value → H} {a : Assume} {C : Checked} {os : Os} {f : FuncId} {fn : Func} {s : ChangeSpec} {conds : List PathCond} {apart fresh handsOn again : Bool} {X : World → Array Value → Prop}
    (hX : ∀ (w w' : World) (args : Array Value), w.heap = w'.heap → X w args → X w' args) (own : ownKnob C.prog.godebug = none) (started : os.Started) (noInit : C.prog.inits.idxOf? f = none) (hfn : C.prog.funcs[f]? = some fn)
    (witness : ∃ (w : World) (tape : Tape) (i : Input), w.os = os ∧ (w.forCall tape i).Shaped C.prog ∧ i.vars = [] ∧ Input.okWide C.prog (w.forCall tape i) .any w.heap.size f i ∧
      ((s.pre enc C.prog fn conds apart (w.forCall tape i).memory i.args ∧ X (w.forCall tape i).memory i.args) ∧ sizedMet enc C.prog fn (OpenSpec.ofChange s) apart (w.forCall tape i).memory i.args) ∧ a.holds C.prog (lone (Frame.enter C.prog f i.args .normal) [] (w.forCall tape i)))
    (walk : ∀ (W : World) (base : Nat) (args : Array Value) (ds gs : List (DataW H)) (before : List MemPlace), W.ShapedOpen C.prog →
      (∀ (j : Nat) t v, fn.params[j]? = some t → args[j]? = some v → Value.okWide C.prog W .any base t v) → DataW.Whole enc C.prog fn.params.toList s.vars apart W args.toList ds gs before →
      conds.all (PathCond.test C.prog ⟨fn.params.toList, ds, s.plain.varTypes C.prog, gs⟩) = true →
      (DataW.weightsEach C.prog (fn.params.toList ++ s.plain.varTypes C.prog) (ds ++ gs)).all (· ≤ reachBytes) = true → X W args → a.holds C.prog (lone (Frame.enter C.prog f args .normal) [] W) →
      Calls C.prog f args W fun e W' => ∃ v, e = .returned v ∧ s.post enc C.prog fn apart fresh handsOn again W args v W') :
    ReturnsInHanded a C os f .any (fun w args => (s.pre enc C.prog fn conds apart w args ∧ X w args) ∧ sizedMet enc C.prog fn (OpenSpec.ofChange s) apart w args) (s.post enc C.prog fn apart fresh handsOn again) :=
  returnsInHanded_of_calls own started noInit witness fun w tape i _ hs _ hok hpre hh => by
    obtain ⟨_, _, _, fn', hfn', _, _, _, _, hval⟩ := hok
    obtain rfl : fn' = fn := Option.some.inj (hfn'.symm.trans hfn)
    obtain ⟨⟨⟨ds, gs, before, hw, hc⟩, hx⟩, hz⟩ := hpre
    refine (walk _ w.heap.size i.args ds gs before hs hval (DataW.Whole.of_heap (by rfl) hw) hc (hz.weights hw) (hX _ _ _ (by rfl) hx) hh).mono ?_
    rintro e W' ⟨v, rfl, hp⟩
    exact ChangeSpec.post_blind hp
section
variable {H : Type} {enc : TypeId × Value → H} {W : World} {base : Nat} {spare : Nat → Bool} {held : Bool} {cs : List Value}
theorem msg_open (h : Opn enc Tryz.prog W base spare held 24 cs) : ∃ m : MsgT, cs = msgC m.t m.x m.q m.r ∧ m.t.size ≤ reachBytes ∧ m.x.size ≤ reachBytes := by
  obtain ⟨hl, hp⟩ := h.struct Tryz.underlying24
  obtain ⟨t, e0, s0⟩ := (hp 0 _ rfl).str Tryz.underlying9
  obtain ⟨x, e1, s1⟩ := (hp 1 _ rfl).str Tryz.underlying9
  obtain ⟨q, e2, _⟩ := (hp 2 _ rfl).i64 Tryz.underlying3
  obtain ⟨r, e3⟩ := (hp 3 _ rfl).bool Tryz.underlying4
  have c1 : Tryz.prog.cellsOf 3 = 1 := by kernel_rfl
  have c2 : Tryz.prog.cellsOf 9 = 1 := by kernel_rfl
  have c3 : Tryz.prog.cellsOf 4 = 1 := by kernel_rfl
  have c4 : Tryz.prog.cellsOf 24 = 4 := by kernel_rfl
  simp only [c1, c2, c3] at e0 e1 e2 e3
  rw [c4] at hl
  refine ⟨⟨t, x, q, r⟩, ?_, s0, s1⟩
  match cs, hl with
  | [v0, v1, v2, v3], _ =>
    simp at e0 e1 e2 e3
    simp [msgC, e0, e1, e2, e3]
end
end Go.Proofs.YtnaabpfpldelmaaGreatDoor
