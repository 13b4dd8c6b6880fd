/- The plain law of FnExactBeside. -/
import Derived.Test.YtdcgbmpmiehemaaL3
namespace Go.VE
set_option linter.unusedVariables false
set_option linter.unusedSimpArgs false

def pastB (a1 a3 b2 : Int) : Bool := (a1 == 3) && decide (a3 ≤ b2)
def besideB (a0 a1 a2 a3 b0 b1 b2 b3 : Int) : Bool := !(a0 == b0) && !(pastB a1 a3 b2) && !(pastB b1 b3 a2)

section
variable {a0 a1 a2 a3 b0 b1 b2 b3 : Int} {rs rs' : List (ByteArray × ByteArray)} {ws ws' : List (ByteArray × (ByteArray × Bool))} {o o' : Bool} {nm nm' : ByteArray}

theorem spec_Beside_is (k : Bool → Option Res) : spec_Beside_k a0 a1 a2 a3 rs ws o nm b0 b1 b2 b3 rs' ws' o' nm' k = k (besideB a0 a1 a2 a3 b0 b1 b2 b3) := by
  unfold spec_Beside_k besideB pastB
  cases a0 == b0 <;> cases a1 == 3 <;> cases decide (a3 ≤ b2) <;> cases b1 == 3 <;> cases decide (b3 ≤ a2) <;> rfl

theorem impl_Beside_1_is (k : Bool → Option Res) : impl_Beside_1_k a0 a1 a2 a3 rs ws o nm b0 b1 b2 b3 rs' ws' o' nm' k = k (pastB a1 a3 b2) := by
  unfold impl_Beside_1_k pastB
  cases a1 == 3 <;> rfl

theorem impl_Beside_is (k : Bool → Option Res) : impl_Beside_k a0 a1 a2 a3 rs ws o nm b0 b1 b2 b3 rs' ws' o' nm' k = k (besideB a0 a1 a2 a3 b0 b1 b2 b3) := by
  unfold impl_Beside_k besideB
  simp only [impl_Beside_1_is, bne]
  cases a0 == b0 <;> cases pastB a1 a3 b2 <;> cases pastB b1 b3 a2 <;> rfl

/-- Behind a budget that was not overdrawn the lengths are small. -/
theorem Beside_law (hr : small rs.length) (hw : small ws.length) (hrx : ∀ x ∈ rs, small x.1.size ∧ small x.2.size) (hwx : ∀ x ∈ ws, small x.1.size ∧ small x.2.1.size) (hn : small nm.size)
    (hr' : small rs'.length) (hw' : small ws'.length) (hrx' : ∀ x ∈ rs', small x.1.size ∧ small x.2.size) (hwx' : ∀ x ∈ ws', small x.1.size ∧ small x.2.1.size) (hn' : small nm'.size)
    (k : Bool → Option Res) : laws_FnExactBeside_k a0 a1 a2 a3 rs ws o nm b0 b1 b2 b3 rs' ws' o' nm' k = k true := by
  unfold laws_FnExactBeside_k
  obtain ⟨r, q1, q2⟩ := szTxn_sized (a0 := a0) (a1 := a1) (a2 := a2) (a3 := a3) (o := o) (a := 1048576) (by omega) (by omega) hr hw hrx hwx hn
  rw [q1]
  rcases q2 with q2 | ⟨q2, q3⟩
  · simp [q2]
  · have c1 : ¬ r < 0 := by omega
    simp only [c1, decide_false, cond_false]
    obtain ⟨r2, p1, p2⟩ := szTxn_sized (a0 := b0) (a1 := b1) (a2 := b2) (a3 := b3) (o := o') (a := r) q2 (by omega) hr' hw' hrx' hwx' hn'
    rw [p1]
    rcases p2 with p2 | ⟨p2, p3⟩
    · simp [p2]
    · have c2 : ¬ r2 < 0 := by omega
      have l1 : rs.length ≤ 4294967296 := by omega
      have l2 : ws.length ≤ 4294967296 := by omega
      have l3 : rs'.length ≤ 4294967296 := by omega
      have l4 : ws'.length ≤ 4294967296 := by omega
      simp [c2, toTxn_k l1 l2, toTxn_k l3 l4, spec_Beside_is, impl_Beside_is, eqTxn_self l1 l2, eqTxn_self l3 l4]
end
end Go.VE
