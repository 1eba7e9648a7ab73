/-
  Runes of a text, byte by byte: the plain law of the document's step.
-/
import Derived.Lib.DecodeN
import Derived.Laws.Strings
import Derived.Test.YtmlcikcdegodaaaDoorSxN
set_option linter.unusedSimpArgs false
set_option linter.unusedVariables false
namespace Go.Sx
open Go Go.Conc
def byteN (s : ByteArray) (i : Nat) : Nat := (s.get! i).toNat
theorem byteN_lt (s : ByteArray) (i : Nat) : byteN s i < 256 := UInt8.toNat_lt _
theorem byteN_get {s : ByteArray} {i : Nat} (h : i < s.size) : (s[i]'h).toNat = byteN s i := by
  unfold byteN
  have e : s.get! i = s[i]'h := by
    cases s with
    | mk d => exact getElem!_pos d i h
  rw [e]
def tailB (s : ByteArray) (i : Nat) : Bool := decide (i < s.size) && decide (128 ≤ byteN s i ∧ byteN s i ≤ 191)
theorem tailB_t {s : ByteArray} {i : Nat} (h : tailB s i = true) : i < s.size ∧ 128 ≤ byteN s i ∧ byteN s i ≤ 191 := by
  unfold tailB at h
  simpa using h
theorem tailB_f {s : ByteArray} {i : Nat} (h : tailB s i = false) : i < s.size → ¬ (128 ≤ byteN s i ∧ byteN s i ≤ 191) := by
  unfold tailB at h
  intro hi hc
  rw [decide_eq_true hi, decide_eq_true hc] at h
  cases h
structure StepR where
  n : Nat
  c : Nat
/-- What the document's step answers. -/
def stepR (s : ByteArray) (i : Nat) : StepR := if (Utf8.decode s i).1 = 65533 ∧ (Utf8.decode s i).2 = 1 then ⟨0, 0⟩ else ⟨(Utf8.decode s i).2, (Utf8.decode s i).1⟩
theorem decode_bytes (s : ByteArray) (i : Nat) : Utf8.decode s i = Lib.decodeN (s.size - i) (byteN s i) (byteN s (i + 1)) (byteN s (i + 2)) (byteN s (i + 3)) := Lib.decode_at s i
theorem stepR_of {s : ByteArray} {i : Nat} {d : Nat × Nat} (h : Utf8.decode s i = d) : stepR s i = if d.1 = 65533 ∧ d.2 = 1 then ⟨0, 0⟩ else ⟨d.2, d.1⟩ := by unfold stepR; rw [h]
theorem step_1 {s : ByteArray} {i : Nat} (h : byteN s i < 128) : stepR s i = ⟨1, byteN s i⟩ := by
  have e : Utf8.decode s i = (byteN s i, 1) := by rw [decode_bytes]; unfold Lib.decodeN; rw [if_pos h]
  rw [stepR_of e, if_neg (by simp only; omega)]
theorem step_bad {s : ByteArray} {i : Nat} (e : Utf8.decode s i = (65533, 1)) : stepR s i = ⟨0, 0⟩ := by
  rw [stepR_of e, if_pos ⟨rfl, rfl⟩]
theorem step_2 {s : ByteArray} {i : Nat} (h1 : 194 ≤ byteN s i) (h2 : byteN s i ≤ 223) (t : tailB s (i + 1) = true) : stepR s i = ⟨2, (byteN s i - 192) * 64 + (byteN s (i + 1) - 128)⟩ := by
  obtain ⟨t1, t2, t3⟩ := tailB_t t
  have e : Utf8.decode s i = ((byteN s i - 192) * 64 + (byteN s (i + 1) - 128), 2) := by
    rw [decode_bytes]; unfold Lib.decodeN
    rw [if_neg (by omega), if_pos ⟨by omega, by omega, by omega⟩, if_pos (by omega)]
    exact Prod.ext (by simp only; omega) rfl
  rw [stepR_of e, if_neg (by simp only; omega)]
theorem step_2f {s : ByteArray} {i : Nat} (h1 : 128 ≤ byteN s i) (h2 : byteN s i ≤ 223) (t : byteN s i < 194 ∨ tailB s (i + 1) = false) : stepR s i = ⟨0, 0⟩ := by
  apply step_bad
  rw [decode_bytes]; unfold Lib.decodeN
  have b1 := byteN_lt s (i + 1)
  rw [if_neg (by omega)]
  split
  · rename_i c
    obtain ⟨c1, c2, c3⟩ := c
    rw [if_neg]
    rcases t with t | t
    · omega
    · exact absurd ⟨by omega, by omega⟩ (tailB_f t (by omega))
  · rw [if_neg (by omega), if_neg (by omega)]
theorem step_3 {s : ByteArray} {i : Nat} (h1 : 224 ≤ byteN s i) (h2 : byteN s i ≤ 239) (t : tailB s (i + 1) = true) (u : tailB s (i + 2) = true) :
    stepR s i = if (byteN s i - 224) * 4096 + (byteN s (i + 1) - 128) * 64 + (byteN s (i + 2) - 128) < 2048 ∨ (55296 ≤ (byteN s i - 224) * 4096 + (byteN s (i + 1) - 128) * 64 + (byteN s (i + 2) - 128) ∧ (byteN s i - 224) * 4096 + (byteN s (i + 1) - 128) * 64 + (byteN s (i + 2) - 128) ≤ 57343) then ⟨0, 0⟩
      else ⟨3, (byteN s i - 224) * 4096 + (byteN s (i + 1) - 128) * 64 + (byteN s (i + 2) - 128)⟩ := by
  obtain ⟨t1, t2, t3⟩ := tailB_t t
  obtain ⟨u1, u2, u3⟩ := tailB_t u
  have e0 := decode_bytes s i
  unfold Lib.decodeN at e0
  rw [if_neg (by omega), if_neg (by omega), if_pos ⟨by omega, ⟨by omega, by omega⟩, by omega, by omega⟩] at e0
  have ev : byteN s i % 16 * 4096 + byteN s (i + 1) % 64 * 64 + byteN s (i + 2) % 64 = (byteN s i - 224) * 4096 + (byteN s (i + 1) - 128) * 64 + (byteN s (i + 2) - 128) := by omega
  rw [ev] at e0
  split
  · rename_i c
    rw [if_neg (by omega)] at e0
    exact step_bad e0
  · rename_i c
    rw [if_pos (by omega)] at e0
    rw [stepR_of e0, if_neg (by simp only; omega)]
theorem step_3f {s : ByteArray} {i : Nat} (h1 : 224 ≤ byteN s i) (h2 : byteN s i ≤ 239) (t : tailB s (i + 1) = false ∨ tailB s (i + 2) = false) : stepR s i = ⟨0, 0⟩ := by
  apply step_bad
  rw [decode_bytes]; unfold Lib.decodeN
  rw [if_neg (by omega), if_neg (by omega), if_neg, if_neg (by omega)]
  rintro ⟨c1, ⟨c2, c3⟩, c4, c5⟩
  rcases t with t | t
  · exact tailB_f t (by omega) ⟨by omega, by omega⟩
  · exact tailB_f t (by omega) ⟨by omega, by omega⟩
theorem step_4 {s : ByteArray} {i : Nat} (h1 : 240 ≤ byteN s i) (h2 : byteN s i ≤ 244) (t : tailB s (i + 1) = true) (u : tailB s (i + 2) = true) (v : tailB s (i + 3) = true) :
    stepR s i = if (byteN s i - 240) * 262144 + (byteN s (i + 1) - 128) * 4096 + (byteN s (i + 2) - 128) * 64 + (byteN s (i + 3) - 128) < 65536 ∨ 1114111 < (byteN s i - 240) * 262144 + (byteN s (i + 1) - 128) * 4096 + (byteN s (i + 2) - 128) * 64 + (byteN s (i + 3) - 128) then ⟨0, 0⟩
      else ⟨4, (byteN s i - 240) * 262144 + (byteN s (i + 1) - 128) * 4096 + (byteN s (i + 2) - 128) * 64 + (byteN s (i + 3) - 128)⟩ := by
  obtain ⟨t1, t2, t3⟩ := tailB_t t
  obtain ⟨u1, u2, u3⟩ := tailB_t u
  obtain ⟨v1, v2, v3⟩ := tailB_t v
  have e0 := decode_bytes s i
  unfold Lib.decodeN at e0
  rw [if_neg (by omega), if_neg (by omega), if_neg (by omega), if_pos ⟨by omega, ⟨by omega, by omega⟩, ⟨by omega, by omega⟩, by omega, by omega⟩] at e0
  have ev : byteN s i % 8 * 262144 + byteN s (i + 1) % 64 * 4096 + byteN s (i + 2) % 64 * 64 + byteN s (i + 3) % 64 = (byteN s i - 240) * 262144 + (byteN s (i + 1) - 128) * 4096 + (byteN s (i + 2) - 128) * 64 + (byteN s (i + 3) - 128) := by omega
  rw [ev] at e0
  split
  · rename_i c
    rw [if_neg (by omega)] at e0
    exact step_bad e0
  · rename_i c
    rw [if_pos (by omega)] at e0
    rw [stepR_of e0, if_neg (by simp only; omega)]
theorem step_4f {s : ByteArray} {i : Nat} (h1 : 240 ≤ byteN s i) (t : 244 < byteN s i ∨ tailB s (i + 1) = false ∨ tailB s (i + 2) = false ∨ tailB s (i + 3) = false) : stepR s i = ⟨0, 0⟩ := by
  apply step_bad
  rw [decode_bytes]; unfold Lib.decodeN
  have b0 := byteN_lt s i
  rw [if_neg (by omega), if_neg (by omega), if_neg (by omega)]
  split
  · rename_i c
    obtain ⟨c1, ⟨c2, c3⟩, ⟨c4, c5⟩, c6, c7⟩ := c
    rcases t with t | t | t | t
    · rw [if_neg (by omega)]
    · exact absurd ⟨by omega, by omega⟩ (tailB_f t (by omega))
    · exact absurd ⟨by omega, by omega⟩ (tailB_f t (by omega))
    · exact absurd ⟨by omega, by omega⟩ (tailB_f t (by omega))
  · rfl
variable {P : Program} {c : Cx} {n : Nat} {L : Env} {M : List HProp}
variable {dst : Option Nat} {ty : TypeId} {pos : String} {after : Array Edge} {g : Option (Nat × Bool)}
theorem ev_indexStr {t : TypeId} {x y : Operand} {s : ByteArray} {k : IntKind} {j : Int} (i : Nat) (hx : opnd L x = some (.string s)) (hy : opnd L y = some (.int k j)) (hu : P.underlying t = some .string) (hj : j = (i : Int)) (h : i < s.size) : Ev P ⟨dst, .index t x y, ty, pos, after, g⟩ c n L M (.int .u8 (byteN s i)) := fun T w st => by
  subst hj
  have e : s[i]? = some (s[i]'h) := by simp [h]
  simp [execOp, opnd_eval st.slots hx, opnd_eval st.slots hy, Instr.index, asIntOf, run_underlying hu, e, byteN_get h]
end Go.Sx
