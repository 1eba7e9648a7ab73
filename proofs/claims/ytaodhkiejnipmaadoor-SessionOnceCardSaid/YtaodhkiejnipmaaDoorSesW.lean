/-
  SessionOnce's walk.
-/
import Derived.Laws.IdiomStrings
import Derived.Test.YtaodhkiejnipmaaDoorSesQ
set_option linter.unusedSimpArgs false
set_option linter.unusedVariables false
namespace Go.Sx
open Go Go.Conc
variable {P : Program} {c : Cx} {n : Nat} {L : Env} {M : List HProp}
variable {dst : Option Nat} {ty : TypeId} {pos : String} {after : Array Edge} {g : Option (Nat × Bool)}
theorem ev_conv_byte1 {s' d e : TypeId} {x : Operand} {b cap : Nat} {u : UInt8} {k : Int} {R : List HProp} {T' : TypeId} (hx : opnd L x = some (.slice (some ⟨b, 0, none⟩) 1 cap)) (hs : P.underlying s' = some (.slice e)) (he : P.underlying e = some (.int .u8)) (hd : P.underlying d = some .string)
    (hp : Pick M (pts b (.cells [.int .u8 k].toArray T' (0, 0))) R) (hk : (u.toNat : Int) = k) : Ev P ⟨dst, .convert s' d x, ty, pos, after, g⟩ c n L M (.string ⟨#[u]⟩) := fun T w s => by
  subst hk
  have hb := s.heap.pts hp
  have h : (convert s' d (.slice (some ⟨b, 0, none⟩) 1 cap)).run P w = .ok (.string ⟨#[u]⟩) w := run_convert_bytes_back w s' d e ⟨b, 0, none⟩ cap [u] hs he hd (fun j hj => by
    obtain rfl : j = 0 := by simpa using hj
    simp [World.cell?, Addr.add, hb])
  simp only [execOp, opnd_eval s.slots hx, Sem.run_bind, h, Result.andThen_ok, Sem.run_pure]
end Go.Sx
set_option maxRecDepth 20000
namespace Go.Proofs.YtaodhkiejnipmaaDoor
open Go Go.Sx
def boolCell (b : Bool) : List Value := [.bool b]
def u8Cell (k : Int) : List Value := [.int .u8 k]
structure OnSt where
  n : Nat
  want : List ByteArray
  got : List ByteArray
  z : Ses
  vw : Value
  vg : Value
structure AnSt where
  j : Nat
  got : List ByteArray
  z : Ses
  vg : Value
theorem delP_len {z : Ses} (h : SesOk z) (m : PMsg) (k : Int) : (delP z m k).length ≤ 8 := by
  unfold delP
  split
  · rename_i c; exact fillP_len (ok_put h (clamp_qos c))
  · split <;> simp
theorem attP_len {z : Ses} (h : SesOk z) : (attachP z).length ≤ 16 := by
  obtain ⟨k, h1, h2, _⟩ := attach_len h
  have := h.Ll
  omega
attribute [local irreducible] MidQ wpE wpO wpC qE wpQ wpQO wpH wpHO wpD wpDO wpZ Ev own emp exI sl ch PostS LoopQ Rd rowsAt
set_option maxHeartbeats 8000000 in
theorem once_walk (H : PHeap) (V : ValidIn H) (v v2 : Value) (tw : List Bool) (br : List Int) (hv : rowsAt H 1 v (tw.map boolCell)) (hv2 : rowsAt H 1 v2 (br.map u8Cell)) (hb2 : ∀ a ∈ br, 0 ≤ a ∧ a ≤ 255) (hl1 : tw.length ≤ 9000000000000000000) (hl2 : br.length ≤ 9000000000000000000) :
    FnDoes Tryd.prog 4 [v, v2] [own H] (fun _ : Unit => True) (fun _ => .bool true) (fun _ => [own H]) := by
  refine does_of Tryd.func4 rfl rfl Tryd.ntmps4 rfl (by simp only [enum, Nat.reduceAdd, Nat.zero_add]; exact rfl) (fun c => ?_)
  obtain ⟨a, cap, rfl⟩ := hv.slice
  obtain ⟨a2, cap2, rfl⟩ := hv2.slice
  have hv' := hv
  have hv2' := hv2
  simp only [List.length_map] at hv' hv2' ⊢
  (refine go ?_; intros)
  (show wpO _ _ ⟨_, .call _, _, _, _, _⟩ _ _ _ _ _ _; refine o_callA (ses_newT H V ⟨#[99]⟩ false (by kernel_rfl)) (fun s _ => ?_); try simp only [List.cons_append, List.nil_append])
  (refine goB ?_; intros)
  refine wpC_meet (σ := OnSt) (fun x => x.n = min tw.length 60 ∧ OnI x.n x.want x.got x.z) (fun x => [(0, .slice a tw.length cap), (5, ptr s), (7, x.vw), (8, x.vg)]) (fun x => [own H, sesI s x.z, strsI x.vw x.want, strsI x.vg x.got]) ?_ (fun x hx => ?_)
  · refine wpC_block ?_
    refine wpC_loop (σ := OnSt) (fun x => (x.n ≤ tw.length ∧ x.n ≤ 60) ∧ OnI x.n x.want x.got x.z) (fun x => [(0, .slice a tw.length cap), (1, .slice a2 br.length cap2), (5, ptr s), (7, x.vw), (8, x.vg), (9, .int .i64 x.n)])
      (fun x => [own H, sesI s x.z, strsI x.vw x.want, strsI x.vg x.got]) (fun x => 60 - x.n) ⟨0, [], [], newZ ⟨#[99]⟩ false, .slice none 0 0, .slice none 0 0⟩ ⟨⟨Nat.zero_le _, Nat.zero_le _⟩, OnI.new (by decide)⟩ (by repeat (first | exact trivial | refine ⟨rfl, ?_⟩)) (Ent.cons (by repeat (first | exact Pick.head | apply Pick.tail)) (Ent.cons (by repeat (first | exact Pick.head | apply Pick.tail)) (Ent.slNil (Ent.slNil Ent.nil)))) (fun x hx => ?_)
    obtain ⟨i, want, got, z, vw, vg⟩ := x
    simp only at hx ⊢
    obtain ⟨⟨x1, x2⟩, hO⟩ := hx
    have hlen := hO.len
    have hlo := hO.lost
    have hl0 := hO.l0
    by_cases hi : i < tw.length ∧ i < 60
    · obtain ⟨i1, i2⟩ := hi
      obtain ⟨b', off, cap', e, hc⟩ := hv'.at i (by simpa using i1)
      simp only [List.length_map, Value.slice.injEq] at e
      obtain ⟨rfl, _, rfl⟩ := e
      have hc' : H.cell? ⟨b', off + i * 1, none⟩ = some (.bool tw[i]) := by
        have := hc 0 (.bool tw[i]) (by simp [boolCell])
        simpa using this
      clear hc
      generalize tw[i] = tb at hc'
      have hu : ((UInt8.ofNat i).toNat : Int) = (i : Int) := by
        rw [UInt8.toNat_ofNat']; omega
      (refine go ?_; intro eb)
      refine o_evB (ev_conv_byte1 (u := UInt8.ofNat i) rfl rfl rfl rfl (by repeat (first | exact Pick.head | apply Pick.tail)) hu) ?_
      generalize (⟨#[UInt8.ofNat i]⟩ : ByteArray) = t
      (refine go ?_; intro mb)
      refine wpC_meet (σ := PMsg) (fun m => m.qos = 1 ∨ m.qos = 2) (fun _ => [(0, .slice (some ⟨b', off, none⟩) tw.length cap), (1, .slice a2 br.length cap2), (5, ptr s), (7, vw), (8, vg), (9, .int .i64 i), (10, ptr mb)])
        (fun m => [own H, sesI s z, strsI vw want, strsI vg got, pts mb (.cells m.cells.toArray 30 (0, 0))]) ?_ (fun m hm => ?_)
      · cases tb with
        | false =>
          (refine go ?_; intros)
          exact q_mid (⟨⟨#[116]⟩, t, 1, false⟩ : PMsg) (.inl rfl) (by repeat (first | exact trivial | refine ⟨rfl, ?_⟩)) (by ((try simp only [List.cons_append, List.nil_append]); repeat (first | exact Ent.nil | (apply Ent.cons; repeat (first | exact Pick.head | apply Pick.tail)))))
        | true =>
          (refine go ?_; intros)
          exact q_mid (⟨⟨#[116]⟩, t, 2, false⟩ : PMsg) (.inr rfl) (by repeat (first | exact trivial | refine ⟨rfl, ?_⟩)) (by ((try simp only [List.cons_append, List.nil_append]); repeat (first | exact Ent.nil | (apply Ent.cons; repeat (first | exact Pick.head | apply Pick.tail)))))
      have st := hO.del hm
      have hd8 := delP_len hO.ok m 2
      have hf8 := firsts_len (delP z m 2)
      (refine go ?_; intros)
      (show wpO _ _ ⟨_, .call _, _, _, _, _⟩ _ _ _ _ _ _; refine o_callA (ses_deliver s z m 2 hl0 (by omega)) (fun p _ => ?_); try simp only [List.cons_append, List.nil_append])
      (refine go ?_; intros)
      (show wpO _ _ ⟨_, .call _, _, _, _, _⟩ _ _ _ _ _ _; refine o_callA (law_firsts p (delP z m 2) (by omega)) (fun f _ => ?_); try simp only [List.cons_append, List.nil_append])
      (refine go ?_; intros)
      refine o_append (sz := 1) (news := strs (firstsF (delP z m 2))) (m := (firstsF (delP z m 2)).length) rfl rfl rfl rfl rfl rfl rfl rfl (by repeat (first | exact Pick.head | apply Pick.tail)) ?_ ?_ rfl (fun vg1 => ?_)
      · exact src_sl rfl (by repeat (first | exact Pick.head | apply Pick.tail))
      · show (got.length + (firstsF (delP z m 2)).length) * 16 ≤ 140737488355328
        omega
      rw [strs_app]
      generalize delZ z m 2 = z1 at st ⊢
      generalize hg1 : got ++ firstsF (delP z m 2) = got1 at st ⊢
      (refine go ?_; intros)
      refine wpC_meet (σ := Value) (fun _ => True) (fun vw1 => [(0, .slice (some ⟨b', off, none⟩) tw.length cap), (1, .slice a2 br.length cap2), (5, ptr s), (7, vw1), (8, vg1), (9, .int .i64 i)])
        (fun vw1 => [own H, sesI s z1, strsI vw1 (want ++ if delB z m 2 then [m.text] else []), strsI vg1 got1]) ?_ (fun vw1 _ => ?_)
      · rcases hB : delB z m 2 with _ | _
        · rw [if_neg (by decide), List.append_nil]
          (refine go ?_; intros)
          exact q_mid vw trivial (by repeat (first | exact trivial | refine ⟨rfl, ?_⟩)) (by ((try simp only [List.cons_append, List.nil_append]); repeat (first | exact Ent.nil | (apply Ent.cons; repeat (first | exact Pick.head | apply Pick.tail)))))
        · rw [if_pos rfl]
          (refine go ?_; intro wb)
          refine o_append (sz := 1) (news := [.string m.text]) (m := 1) rfl rfl rfl rfl rfl rfl rfl rfl (by repeat (first | exact Pick.head | apply Pick.tail)) ?_ ?_ rfl (fun w' => ?_)
          · exact src_pts rfl (by repeat (first | exact Pick.head | apply Pick.tail)) rfl rfl rfl
          · show (want.length + 1) * 16 ≤ 140737488355328
            omega
          rw [strs_one]
          (refine go ?_; intros)
          exact q_mid w' trivial (by repeat (first | exact trivial | refine ⟨rfl, ?_⟩)) (by ((try simp only [List.cons_append, List.nil_append]); repeat (first | exact Ent.nil | (apply Ent.cons; repeat (first | exact Pick.head | apply Pick.tail)))))
      generalize (want ++ if delB z m 2 then [m.text] else []) = want1 at st ⊢
      have hlen1 := st.len
      by_cases c2 : i < br.length
      · obtain ⟨b2, off2, cap2', e2, hc2⟩ := hv2'.at i (by simpa using c2)
        simp only [List.length_map, Value.slice.injEq] at e2
        obtain ⟨rfl, _, rfl⟩ := e2
        have hcc : H.cell? ⟨b2, off2 + i * 1, none⟩ = some (.int .u8 br[i]) := by
          have := hc2 0 (.int .u8 br[i]) (by simp [u8Cell])
          simpa using this
        obtain ⟨hk0, hk1⟩ := hb2 br[i] (List.getElem_mem _)
        clear hc2
        generalize br[i] = kk at hcc hk0 hk1
        by_cases q1 : kk % 6 = 1
        · have ha := attP_len st.ok
          have hf := firsts_len (attachP z1)
          (refine go ?_; intros)
          (show wpO _ _ ⟨_, .call _, _, _, _, _⟩ _ _ _ _ _ _; refine o_callA (ses_attach s z1) (fun p2 _ => ?_); try simp only [List.cons_append, List.nil_append])
          (refine go ?_; intros)
          (show wpO _ _ ⟨_, .call _, _, _, _, _⟩ _ _ _ _ _ _; refine o_callA (law_firsts p2 (attachP z1) (by omega)) (fun f2 _ => ?_); try simp only [List.cons_append, List.nil_append])
          (refine go ?_; intros)
          refine o_append (sz := 1) (news := strs (firstsF (attachP z1))) (m := (firstsF (attachP z1)).length) rfl rfl rfl rfl rfl rfl rfl rfl (by repeat (first | exact Pick.head | apply Pick.tail)) ?_ ?_ rfl (fun vg2 => ?_)
          · exact src_sl rfl (by repeat (first | exact Pick.head | apply Pick.tail))
          · show (got1.length + (firstsF (attachP z1)).length) * 16 ≤ 140737488355328
            omega
          rw [strs_app]
          (refine go ?_; intros)
          refine q_round ⟨i + 1, want1, got1 ++ firstsF (attachP z1), attachZ z1, vw1, vg2⟩ ⟨⟨by simp only; omega, by simp only; omega⟩, st.att⟩ (by simp only; omega) (by repeat (first | exact trivial | refine ⟨rfl, ?_⟩)) (by ((try simp only [List.cons_append, List.nil_append]); repeat (first | exact Ent.nil | (apply Ent.cons; repeat (first | exact Pick.head | apply Pick.tail)))))
        by_cases q2 : kk % 6 = 2
        · (refine go ?_; intros)
          (show wpO _ _ ⟨_, .call _, _, _, _, _⟩ _ _ _ _ _ _; refine o_callA (ses_detach s z1) (fun _ _ => ?_); try simp only [List.cons_append, List.nil_append])
          (refine go ?_; intros)
          refine q_round ⟨i + 1, want1, got1, offZ z1, vw1, vg1⟩ ⟨⟨by simp only; omega, by simp only; omega⟩, st.off⟩ (by simp only; omega) (by repeat (first | exact trivial | refine ⟨rfl, ?_⟩)) (by ((try simp only [List.cons_append, List.nil_append]); repeat (first | exact Ent.nil | (apply Ent.cons; repeat (first | exact Pick.head | apply Pick.tail)))))
        by_cases q4 : 4 ≤ kk % 6
        · have hf := all_len z1.L z1
          have hq := st.ok.ql
          (refine go ?_; intros)
          (show wpO _ _ ⟨_, .call _, _, _, _, _⟩ _ _ _ _ _ _; refine o_callA (law_answer s z1 st.ok) (fun f2 _ => ?_); try simp only [List.cons_append, List.nil_append])
          (refine go ?_; intros)
          refine o_append (sz := 1) (news := strs (allT z1 z1.L)) (m := (allT z1 z1.L).length) rfl rfl rfl rfl rfl rfl rfl rfl (by repeat (first | exact Pick.head | apply Pick.tail)) ?_ ?_ rfl (fun vg2 => ?_)
          · exact src_sl rfl (by repeat (first | exact Pick.head | apply Pick.tail))
          · show (got1.length + (allT z1 z1.L).length) * 16 ≤ 140737488355328
            omega
          rw [strs_app]
          (refine go ?_; intros)
          refine q_round ⟨i + 1, want1, got1 ++ allT z1 z1.L, allZ z1 z1.L, vw1, vg2⟩ ⟨⟨by simp only; omega, by simp only; omega⟩, st.all⟩ (by simp only; omega) (by repeat (first | exact trivial | refine ⟨rfl, ?_⟩)) (by ((try simp only [List.cons_append, List.nil_append]); repeat (first | exact Ent.nil | (apply Ent.cons; repeat (first | exact Pick.head | apply Pick.tail)))))
        · (refine go ?_; intros)
          refine q_round ⟨i + 1, want1, got1, z1, vw1, vg1⟩ ⟨⟨by simp only; omega, by simp only; omega⟩, st⟩ (by simp only; omega) (by repeat (first | exact trivial | refine ⟨rfl, ?_⟩)) (by ((try simp only [List.cons_append, List.nil_append]); repeat (first | exact Ent.nil | (apply Ent.cons; repeat (first | exact Pick.head | apply Pick.tail)))))
      · (refine go ?_; intros)
        refine q_round ⟨i + 1, want1, got1, z1, vw1, vg1⟩ ⟨⟨by simp only; omega, by simp only; omega⟩, st⟩ (by simp only; omega) (by repeat (first | exact trivial | refine ⟨rfl, ?_⟩)) (by ((try simp only [List.cons_append, List.nil_append]); repeat (first | exact Ent.nil | (apply Ent.cons; repeat (first | exact Pick.head | apply Pick.tail)))))
    · by_cases c1 : i < tw.length
      all_goals
        (refine go ?_; intros)
        exact q_mid (⟨i, want, got, z, vw, vg⟩ : OnSt) ⟨by simp only; omega, hO⟩ (by repeat (first | exact trivial | refine ⟨rfl, ?_⟩)) (by ((try simp only [List.cons_append, List.nil_append]); repeat (first | exact Ent.nil | (apply Ent.cons; repeat (first | exact Pick.head | apply Pick.tail)))))
  obtain ⟨N, want, got, z, vw, vg⟩ := x
  simp only at hx ⊢
  obtain ⟨hN, hO⟩ := hx
  have hlen := hO.len
  have hlo := hO.lost
  have st := hO.att
  have hon := att_on z
  have htot := ok_tot st.ok
  have ha := attP_len hO.ok
  have hf := firsts_len (attachP z)
  (refine go ?_; intros)
  (show wpO _ _ ⟨_, .call _, _, _, _, _⟩ _ _ _ _ _ _; refine o_callA (ses_attach s z) (fun p2 _ => ?_); try simp only [List.cons_append, List.nil_append])
  (refine go ?_; intros)
  (show wpO _ _ ⟨_, .call _, _, _, _, _⟩ _ _ _ _ _ _; refine o_callA (law_firsts p2 (attachP z) (by omega)) (fun f2 _ => ?_); try simp only [List.cons_append, List.nil_append])
  (refine go ?_; intros)
  refine o_append (sz := 1) (news := strs (firstsF (attachP z))) (m := (firstsF (attachP z)).length) rfl rfl rfl rfl rfl rfl rfl rfl (by repeat (first | exact Pick.head | apply Pick.tail)) ?_ ?_ rfl (fun vg1 => ?_)
  · exact src_sl rfl (by repeat (first | exact Pick.head | apply Pick.tail))
  · show (got.length + (firstsF (attachP z)).length) * 16 ≤ 140737488355328
    omega
  rw [strs_app]
  generalize attachZ z = z1 at st hon htot ⊢
  generalize got ++ firstsF (attachP z) = got1 at st ⊢
  (refine goB ?_; intros)
  refine wpC_meet (σ := AnSt) (fun x => OnI N want x.got x.z ∧ tot x.z = 0) (fun x => [(0, .slice a tw.length cap), (5, ptr s), (7, vw), (8, x.vg)]) (fun x => [own H, sesI s x.z, strsI vw want, strsI x.vg x.got]) ?_ (fun x hx => ?_)
  · refine wpC_block ?_
    refine wpC_loop (σ := AnSt) (fun x => (x.j ≤ 60 ∧ x.z.online = true ∧ tot x.z ≤ 24 - x.j) ∧ OnI N want x.got x.z) (fun x => [(0, .slice a tw.length cap), (5, ptr s), (7, vw), (8, x.vg), (14, .int .i64 x.j)])
      (fun x => [own H, sesI s x.z, strsI vw want, strsI x.vg x.got]) (fun x => 60 - x.j) ⟨0, got1, z1, vg1⟩ ⟨⟨Nat.zero_le _, hon, htot⟩, st⟩ (by repeat (first | exact trivial | refine ⟨rfl, ?_⟩)) (by ((try simp only [List.cons_append, List.nil_append]); repeat (first | exact Ent.nil | (apply Ent.cons; repeat (first | exact Pick.head | apply Pick.tail))))) (fun x hx => ?_)
    obtain ⟨j, got2, z2, vg2⟩ := x
    simp only at hx ⊢
    obtain ⟨⟨j1, j2, j3⟩, hO2⟩ := hx
    by_cases hj : j < 60
    · have hf2 := all_len z2.L z2
      have hq2 := hO2.ok.ql
      have hlen2 := hO2.len
      obtain ⟨r1, _, r3⟩ := round_facts (hO2.onok j2) hO2.full
      have st2 := hO2.all
      (refine go ?_; intros)
      (show wpO _ _ ⟨_, .call _, _, _, _, _⟩ _ _ _ _ _ _; refine o_callA (law_answer s z2 hO2.ok) (fun f3 _ => ?_); try simp only [List.cons_append, List.nil_append])
      (refine go ?_; intros)
      refine o_append (sz := 1) (news := strs (allT z2 z2.L)) (m := (allT z2 z2.L).length) rfl rfl rfl rfl rfl rfl rfl rfl (by repeat (first | exact Pick.head | apply Pick.tail)) ?_ ?_ rfl (fun vg3 => ?_)
      · exact src_sl rfl (by repeat (first | exact Pick.head | apply Pick.tail))
      · show (got2.length + (allT z2 z2.L).length) * 16 ≤ 140737488355328
        omega
      rw [strs_app]
      (refine go ?_; intros)
      refine q_round ⟨j + 1, got2 ++ allT z2 z2.L, allZ z2 z2.L, vg3⟩ ⟨⟨by simp only; omega, r1.on, by simp only; omega⟩, st2⟩ (by simp only; omega) (by repeat (first | exact trivial | refine ⟨rfl, ?_⟩)) (by ((try simp only [List.cons_append, List.nil_append]); repeat (first | exact Ent.nil | (apply Ent.cons; repeat (first | exact Pick.head | apply Pick.tail)))))
    · (refine go ?_; intros)
      exact q_mid (⟨j, got2, z2, vg2⟩ : AnSt) ⟨hO2, by simp only; omega⟩ (by repeat (first | exact trivial | refine ⟨rfl, ?_⟩)) (by ((try simp only [List.cons_append, List.nil_append]); repeat (first | exact Ent.nil | (apply Ent.cons; repeat (first | exact Pick.head | apply Pick.tail)))))
  obtain ⟨j, got2, z2, vg2⟩ := x
  simp only at hx ⊢
  obtain ⟨hO2, ht⟩ := hx
  obtain ⟨e1, e2, rfl⟩ := hO2.end ht
  have hlo2 := hO2.lost
  have hlen2 := hO2.len
  have hrw : Rd (strsI vw got2) 1 vw got2.length (strs got2) := Rd.ofSl
  have hrg : Rd (strsI vg2 got2) 1 vg2 got2.length (strs got2) := Rd.ofSl
  refine wpC_fact (hrw.isSlice (by repeat (first | exact Pick.head | apply Pick.tail))) (fun hkw => ?_)
  refine wpC_fact (hrg.isSlice (by repeat (first | exact Pick.head | apply Pick.tail))) (fun hkg => ?_)
  obtain ⟨wa, wc, rfl, hkw⟩ := hkw
  obtain ⟨ga, gc, rfl, hkg⟩ := hkg
  (refine go ?_; intros)
  (show wpO _ _ ⟨_, .call _, _, _, _, _⟩ _ _ _ _ _ _; refine o_callA (ses_queue s z2) (fun v1 _ => ?_); try simp only [List.cons_append, List.nil_append])
  (refine go ?_; intros)
  (show wpO _ _ ⟨_, .call _, _, _, _, _⟩ _ _ _ _ _ _; refine o_callA (ses_flight s z2) (fun v3 _ => ?_); try simp only [List.cons_append, List.nil_append])
  (refine go ?_; intros)
  refine wpC_loop (σ := Nat) (fun k => k ≤ got2.length) (fun k => [(0, .slice a tw.length cap), (5, ptr s), (7, .slice wa got2.length wc), (8, .slice ga got2.length gc), (15, .int .i64 k)])
    (fun k => [own H, sesI s z2, strsI (.slice wa got2.length wc) got2, strsI (.slice ga got2.length gc) got2]) (fun k => got2.length - k) 0 (Nat.zero_le _) (by repeat (first | exact trivial | refine ⟨rfl, ?_⟩)) (by ((try simp only [List.cons_append, List.nil_append]); repeat (first | exact Ent.nil | (apply Ent.cons; repeat (first | exact Pick.head | apply Pick.tail))))) (fun k hk => ?_)
  by_cases hkl : k < got2.length
  · obtain ⟨wb, wo, rfl, _⟩ := hkw (by omega)
    obtain ⟨gb, go', rfl, _⟩ := hkg (by omega)
    have hcell : (strs got2)[k * 1]? = some (.string got2[k]) := by rw [Nat.mul_one]; simp [strs, hkl]
    (refine go ?_; intros)
    refine wpC_drawnA [strsI (.slice (some ⟨wb, wo, none⟩) got2.length wc) got2, strsI (.slice (some ⟨gb, go', none⟩) got2.length gc) got2] 8 ?_
    ((first | refine dt 0 ?_ | refine dts 0 ?_); (first | refine dt 1 ?_ | refine dts 1 ?_); (first | refine dt 2 ?_ | refine dts 2 ?_))
    refine dtB 3 rfl (ev_load_rd rfl rfl rfl hrg (by repeat (first | exact Pick.head | apply Pick.tail)) rfl hcell) ?_
    ((first | refine dt 4 ?_ | refine dts 4 ?_); (first | refine df 5 ?_ | refine dfs 5 ?_); (first | refine df 6 ?_ | refine dfs 6 ?_))
    refine dfB 7 rfl (ev_load_rd rfl rfl rfl hrw (by repeat (first | exact Pick.head | apply Pick.tail)) rfl hcell) ?_
    (refine dl ?_)
    (refine go ?_; intros)
    refine q_round (k + 1) (by omega) (by omega) (by repeat (first | exact trivial | refine ⟨rfl, ?_⟩)) (by ((try simp only [List.cons_append, List.nil_append]); repeat (first | exact Ent.nil | (apply Ent.cons; repeat (first | exact Pick.head | apply Pick.tail)))))
  · (refine go ?_; intros)
    (show wpO _ _ ⟨_, .call _, _, _, _, _⟩ _ _ _ _ _ _; refine o_callA (ses_lost s z2) (fun _ _ => ?_); try simp only [List.cons_append, List.nil_append])
    (refine go ?_; intros)
    refine o_evB (ev_min (r := (N : Nat)) rfl rfl (by omega)) ?_
    (refine go ?_; intros)
    (show wpO _ _ ⟨_, .call _, _, _, _, _⟩ _ _ _ _ _ _; refine o_callA (law_awake H V) (fun _ _ => ?_); try simp only [List.cons_append, List.nil_append])
    (refine go ?_; intros)
    exact q_ret1 rfl rfl () rfl trivial (by ((try simp only [List.cons_append, List.nil_append]); repeat (first | exact Ent.nil | (apply Ent.cons; repeat (first | exact Pick.head | apply Pick.tail)))))
end Go.Proofs.YtaodhkiejnipmaaDoor
