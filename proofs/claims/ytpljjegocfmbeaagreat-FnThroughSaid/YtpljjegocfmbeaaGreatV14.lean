/- More operations: what cuts, what looks in, what reckons, what is turned into another kind. -/
import Derived.Test.YtpljjegocfmbeaaGreatV13
namespace Go.VE
set_option linter.unusedVariables false
set_option linter.unusedSimpArgs false

section
variable {P : Program} {X : Nat → Prop} {μ : List Slot} {s : St} {h : Heap} {I : Nat → Prop}

theorem new_own {h0 : Heap} {μ0 : List Slot} {s0 : St} (inv : Inv X h μ s) (ext : Ext X h0 μ0 s0 h μ s) (e : Ty) (xs : List e.D) (c : Array Value) (el : TypeId) (fr : Nat × Nat) (cap : Nat) (hn : NoFrz c fr)
    (h1 : c.size = cap * e.size) (h2 : xs.length ≤ cap) (h3 : ∀ i (hi : i < xs.length), Rep h (Im X h μ s) e ((c.toList.drop (i * e.size)).take e.size) xs[i]) (n : Nat) (hl : xs.length = n) :
    ∃ μ', Inv X (h.push (.cells c el fr)) μ' (s ++ [.arr e xs]) ∧ Ext X h0 μ0 s0 (h.push (.cells c el fr)) μ' (s ++ [.arr e xs]) ∧
      RV (h.push (.cells c el fr)) (Im X (h.push (.cells c el fr)) μ' (s ++ [.arr e xs])) μ' (s ++ [.arr e xs]) (.own s.length) (.slice (some ⟨h.size, 0, none⟩) n cap) ∧ ∀ r, r < s.length → μ'[r]? = μ[r]? := by
  obtain ⟨a, b, c⟩ := new_arr inv ext e xs c el fr cap hn h1 h2 h3
  subst hl
  exact ⟨_, a, b, c _, keep_app inv⟩

theorem zero_segs (e : Ty) (m : Nat) (L : List Value) (hL : L = (List.replicate m e.zv).flatten) : ∀ i, i < m → (L.drop (i * e.size)).take e.size = e.zv := by
  subst hL
  induction m with
  | zero => intro i hi; omega
  | succ m ih =>
    intro i hi
    rw [List.replicate_succ, List.flatten_cons]
    cases i with
    | zero => simp [List.take_append_of_le_length, zv_length]
    | succ i =>
      have := ih i (by omega)
      have e1 : (e.zv ++ (List.replicate m e.zv).flatten).drop ((i + 1) * e.size) = (List.replicate m e.zv).flatten.drop (i * e.size) := by
        rw [Nat.add_mul, Nat.one_mul, Nat.add_comm, ← List.drop_drop, ← zv_length e, List.drop_left]
      rw [e1]; exact this

theorem op_makeSlice {o : Oper} {e : Env} {t : TypeId} {l c : Operand} {el : Ty} {n m : Int} (ho : o.op = .makeSlice t l c) (ht : TyOk1 P (.slice el) t false) (hl : ev e l = .int .i64 n) (hc : ev e c = .int .i64 m)
    (h0 : 0 ≤ n) (hnm : n ≤ m) (hm : m ≤ (maxLen : Int)) : OpOk P o e s [] (.own s.length) (s ++ [.arr el (List.replicate n.toNat el.zero)]) :=
  OpOk.push fun X μ w a inv he => by
    obtain ⟨te, ag', hu, hte⟩ := elem_of ht rfl
    have h1 := ev_rv he l
    rw [hl] at h1
    simp only [RV] at h1
    have h2 := ev_rv he c
    rw [hc] at h2
    simp only [RV] at h2
    obtain ⟨i0, hi1, hi2, hi3, hi4⟩ := hte.info
    have hti : ∀ w', (typeInfo te).run P w' = .ok i0 w' := fun w' => by simp [typeInfo, hi1]
    have hwn : ∀ x : Int, 0 ≤ x → x ≤ (maxLen : Int) → IntKind.i64.wrap x = x := by
      intro x hx0 hx1
      have e1 : ((maxLen : Nat) : Int) = 4294967296 := rfl
      rw [e1] at hx1
      have hx : x % (18446744073709551616 : Int) = x := Int.emod_eq_of_lt hx0 (by omega)
      have h2 : ¬ (x ≥ (9223372036854775808 : Int)) := by omega
      show (if (true && decide (x % (18446744073709551616 : Int) ≥ (9223372036854775808 : Int))) = true then x % (18446744073709551616 : Int) - 18446744073709551616 else x % (18446744073709551616 : Int)) = x
      rw [hx]
      simp [h2]
    have e1 := hwn n h0 (by omega)
    have e2 := hwn m (by omega) hm
    have hb : ¬ ((i0.bytes : Int) * m > 2 ^ 48) := by
      unfold maxLen at hm
      have hbi : (i0.bytes : Int) ≤ 16384 := by omega
      have hbi0 : (0 : Int) ≤ (i0.bytes : Int) := by omega
      have : (i0.bytes : Int) * m ≤ 16384 * m := Int.mul_le_mul_of_nonneg_right hbi (by omega)
      have h48 : (2 : Int) ^ 48 = 281474976710656 := by decide
      have : (16384 : Int) * m ≤ 16384 * 4294967296 := Int.mul_le_mul_of_nonneg_left hm (by decide)
      omega
    obtain ⟨k, rfl⟩ := Int.eq_ofNat_of_zero_le (show 0 ≤ m by omega)
    obtain ⟨j, rfl⟩ := Int.eq_ofNat_of_zero_le h0
    have hC : ((Array.range (k * el.size)).map ((if k * el.size = 0 then #[] else (zval ag' el).cells)[· % (if k * el.size = 0 then #[] else (zval ag' el).cells).size]!)).toList = (List.replicate k el.zv).flatten := by
      split
      · rename_i hz
        have hp := el.size_pos
        have : k = 0 := by
          rcases Nat.mul_eq_zero.1 hz with h1 | h1
          · exact h1
          · omega
        subst this
        simp
      · exact zrow el k _ (zval_cells (.inl hte))
    obtain ⟨μ', i1, x1, v1, kp⟩ := new_own inv (Ext.refl _ _ _ _) el (List.replicate j el.zero) _ te (0, 0) k (noFrz_new _)
      (by rw [← Array.length_toList, hC]; simp [zv_length]) (by simp; omega) (by
        intro i hi
        simp only [List.length_replicate] at hi
        rw [zero_segs el k _ hC i (by omega)]
        simp only [List.getElem_replicate]
        exact zero_rep el) j (by simp)
    refine ⟨.slice (some ⟨w.heap.size, 0, none⟩) j k, { w with heap := w.heap.push (.cells ((Array.range (k * el.size)).map ((if k * el.size = 0 then #[] else (zval ag' el).cells)[· % (if k * el.size = 0 then #[] else (zval ag' el).cells).size]!)) te (0, 0)) }, μ', _, ?_, rfl, ⟨rfl, rfl, rfl⟩, i1, v1, x1, kp⟩
    have hcond : ¬ ((decide ((k : Int) < 0) || decide ((i0.bytes : Int) * (k : Int) > 2 ^ 48) || decide ((j : Int) < 0) || decide ((j : Int) > (k : Int))) = true) := by
      simp only [Bool.or_eq_true, decide_eq_true_eq]
      rintro (((h | h) | h) | h)
      · omega
      · exact hb h
      · omega
      · omega
    unfold execOp
    rw [ho]
    simp only [h1, h2, Instr.makeSlice, Sem.run_bind, run_underlying hu, Result.andThen_ok, asInt, asIntOf, Sem.run_pure, hti, e1, e2]
    rw [if_neg hcond]
    have hzr : ∀ w', (zeroValue te).run P w' = .ok (zval ag' el) w' := fun w' => run_zeroValue hte.info w'
    have hso : ∀ w', (sizeOf te).run P w' = .ok el.size w' := fun w' => run_sizeOf hte.info w'
    simp only [Sem.run_bind, run_askRoom, Result.andThen_ok, hso, Int.toNat_natCast]
    by_cases hz : k * el.size = 0
    · simp only [if_pos hz, Sem.run_bind, Sem.run_pure, Result.andThen_ok, newRow, run_newObj]
    · simp only [if_neg hz, Sem.run_bind, Sem.run_pure, Result.andThen_ok, newRow, run_newObj, hzr]

end
end Go.VE
