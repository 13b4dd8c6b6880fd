/- slices.Insert at structs of 4 cells, told as a contract. -/
import Derived.Test.YtpljjegocfmbeaaGreatV29
namespace Go.VE
open Go.Shelf Go.RowKit Go.Lib Go.Proofs
set_option linter.unusedVariables false
set_option linter.unusedSimpArgs false
variable {P : Program} {ρ : Ren} {zv : Value} {B : Nat}

set_option maxHeartbeats 4000000 in
set_option maxRecDepth 100000 in
/-- There is room, i < len(s): in place. -/
theorem ins4_shift (L : InsLay P ρ 4 zv B) (b off n c i vb voff m vc : Nat) (cs vs : List Value) (w : World) (hi : i < n) (hm : 0 < m) (hroom : n + m ≤ c) (hnm : n + m ≤ 1073741824) (hvb : vb ≠ b)
    (hcl : cs.length = n * 4) (hvl : vs.length = m * 4)
    (hcs : ∀ j v, cs[j]? = some v → w.cell? ⟨b, off + j, none⟩ = some v) (hsp : ∀ j, j < (n + m) * 4 → (w.cell? ⟨b, off + j, none⟩).isSome = true) (hfz : ∀ j, j < (n + m) * 4 → w.frozen? ⟨b, off + j, none⟩ = false)
    (hvs : ∀ j v, vs[j]? = some v → w.cell? ⟨vb, voff + j, none⟩ = some v) (h1c : ∀ v ∈ cs, v.oneCell' = true) (h1v : ∀ v ∈ vs, v.oneCell' = true)
    (tA tB : TypeId) (kA kB : Nat) (hsa : w.shape? vb = some (tA, kA)) (hsb : w.shape? b = some (tB, kB)) (hkB : kB ≠ 0) (hfa : w.frozen? ⟨vb, voff, none⟩ = false) (hfe : w.frozen? ⟨vb, kA, none⟩ = false) :
    Calls P (ρ.f 22) #[.slice (some ⟨b, off, none⟩) n c, .int .i64 i, .slice (some ⟨vb, voff, none⟩) m vc] w fun e w' =>
      e = .returned (.slice (some ⟨b, off, none⟩) (n + m) c) ∧ w' = (w.drew.setCells b (off + (i + m) * 4) (cs.drop (i * 4))).setCells b (off + i * 4) vs := by
  have t0 := L.t0; have a0 := L.a0; have z0 := L.z0; have v0 := L.v0; have t3 := L.t3; have a3 := L.a3; have z3 := L.z3; have v3 := L.v3; have t4 := L.t4; have a4 := L.a4; have z4 := L.z4; have v4 := L.v4; have a9 := L.a9; have z9 := L.z9; have v9 := L.v9; have t24 := L.t24; have a24 := L.a24; have z24 := L.z24; have v24 := L.v24
  have u0 := run_underlying L.t0; have u3 := run_underlying L.t3; have u4 := run_underlying L.t4; have u24 := run_underlying L.t24
  obtain ⟨nm, hf22⟩ := L.f22
  have hz1 : ¬ ((m : Int) = 0) := by omega
  have hz2 : ¬ ((i : Int) = (n : Int)) := by omega
  have hsz : (P.info? (ρ.t 9)).map (·.size) = some 4 := by
    obtain ⟨i0, hi0, h0, h1, h2⟩ := info_parts L.i9
    rw [hi0]; simp [h1]
  have hov : ∀ lb cb, (callFunc (ρ.f 29) #[.slice (some ⟨vb, voff, none⟩) m vc, .slice (some ⟨b, off + (i + m) * 4, none⟩) lb cb]).run P w = .ok (.value (.bool false)) w := fun lb cb => by
    rw [L.ov, Lib.run_overlaps_apart w (ρ.t 24) (ρ.t 4) (ρ.t 9) L.t24 4 L.z9 ⟨vb, voff, none⟩ ⟨b, off + (i + m) * 4, none⟩ m vc lb cb hvb tA tB kA kB hsa hsb hkB hfa hfe]
    rfl
  have hdl : (cs.drop (i * 4)).length = (n - i) * 4 := by rw [List.length_drop, hcl]; omega
  have mixed := L.mixed
  have hw1 : IntKind.i64.wrap ((i : Int) + (m : Int)) = (i : Int) + (m : Int) := by rw [IntKind.wrap_i64]; omega
  have hb1 : (0 : Int) ≤ (i : Int) + (m : Int) := by omega
  have hin : i ≤ n := by omega
  have htn : ((i : Int) + (m : Int)).toNat = i + m := by omega
  have hb2 : ¬ (c = i + m) := by omega
  have hb3 : (i : Int) ≤ (n : Int) + (m : Int) := by omega
  have hb4 : ¬ (c = i) := by omega
  have hcp1 : ∀ ty dc sc, (Builtin.copy_ #[(ρ.t 24), (ρ.t 24)] ty #[.slice (some ⟨b, off + (i + m) * 4, none⟩) (n + m - (i + m)) dc, .slice (some ⟨b, off + i * 4, none⟩) (n + m - i) sc]).run P w.drew = .ok (goInt ((n - i : Nat) : Int)) (w.drew.setCells b (off + (i + m) * 4) (cs.drop (i * 4))) := fun ty dc sc =>
    run_copy_z w.drew _ _ ty (ρ.t 9) b (off + (i + m) * 4) (n + m - (i + m)) dc ⟨b, off + i * 4, none⟩ (n + m - i) sc 4 (cs.drop (i * 4)) L.t24 hsz (n - i) (by simp only [Nat.min_def]; split <;> omega) hdl
      (fun j v hj => by rw [Addr.add_lit, Nat.add_assoc]; exact hcs (i * 4 + j) v (by rwa [List.getElem?_drop] at hj))
      (fun j hj => by rw [Nat.add_assoc]; exact hsp _ (by omega)) (fun j hj => by rw [Nat.add_assoc]; exact hfz _ (by omega)) (fun v hv => h1c v (List.mem_of_mem_drop hv))
  obtain ⟨W1, hW1⟩ : ∃ W1, W1 = w.drew.setCells b (off + (i + m) * 4) (cs.drop (i * 4)) := ⟨_, rfl⟩
  have hsp1 : ∀ k, k < (n + m) * 4 → (W1.cell? ⟨b, off + k, none⟩).isSome = true := fun k hk => by
    rw [hW1]
    exact isSome_setCells b _ _ _ (fun j hj => by rw [Nat.add_assoc]; exact hsp _ (by omega)) _ (hsp k hk)
  have hcp2 : ∀ (W : World), (∀ x, W.cell? x = W1.cell? x) → (∀ x, W.frozen? x = W1.frozen? x) → ∀ ty dc, (Builtin.copy_ #[(ρ.t 24), (ρ.t 24)] ty #[.slice (some ⟨b, off + i * 4, none⟩) (n + m - i) dc, .slice (some ⟨vb, voff, none⟩) m vc]).run P W = .ok (goInt (m : Int)) (W.setCells b (off + i * 4) vs) := fun W hWc hWf ty dc =>
    run_copy_z W _ _ ty (ρ.t 9) b (off + i * 4) (n + m - i) dc ⟨vb, voff, none⟩ m vc 4 vs L.t24 hsz m (by simp only [Nat.min_def]; split <;> omega) hvl
      (fun j v hj => by
        rw [Addr.add_lit, hWc, hW1, World.cell?_setCells_out b _ _ _ _ (fun h _ => absurd h hvb)]
        exact hvs j v hj)
      (fun j hj => by rw [hWc, Nat.add_assoc]; exact hsp1 _ (by omega)) (fun j hj => by rw [hWf, hW1, World.frozen?_setCells, Nat.add_assoc]; exact hfz _ (by omega)) h1v
  rw [← hW1] at hcp1
  go_enter hf22, Body2.n22_ntmps ρ
  go_wp2_with (simp only [hov])
  go_region_law_o (refine step_copy_runI rfl _ _ (ρ.t 24) (ρ.t 24) rfl _ _ (by simp [Act.eval, Act.put]) (by simp [Act.eval, Act.put]) (hcp1 _ _ _) ?_)
  go_wp2_with (at_builtin; refine wpList_copy_runI _ rfl _ _ (ρ.t 24) (ρ.t 24) rfl _ _ rfl rfl (hcp2 _ (fun _ => rfl) (fun _ => rfl) _ _) ?_)
  go_ret
  first | exact ⟨rfl, rfl⟩ | exact ⟨rfl, by rw [hW1]⟩

set_option maxHeartbeats 4000000 in
set_option maxRecDepth 100000 in
/-- At the end, there is room: in place. -/
theorem ins4_end_room (L : InsLay P ρ 4 zv B) (b off n c vb voff m vc : Nat) (vs : List Value) (w : World) (hm : 0 < m) (hroom : n + m ≤ c)
    (hvl : vs.length = m * 4) (hsp : ∀ j, j < m * 4 → (w.cell? ⟨b, off + n * 4 + j, none⟩).isSome = true) (hfz : ∀ j, j < m * 4 → w.frozen? ⟨b, off + n * 4 + j, none⟩ = false)
    (hvs : ∀ j v, vs[j]? = some v → w.cell? ⟨vb, voff + j, none⟩ = some v) (h1v : ∀ v ∈ vs, v.oneCell' = true) :
    Calls P (ρ.f 22) #[.slice (some ⟨b, off, none⟩) n c, .int .i64 n, .slice (some ⟨vb, voff, none⟩) m vc] w fun e w' =>
      e = .returned (.slice (some ⟨b, off, none⟩) (n + m) c) ∧ w' = w.setCells b (off + n * 4) vs := by
  have t0 := L.t0; have a0 := L.a0; have z0 := L.z0; have v0 := L.v0; have t3 := L.t3; have a3 := L.a3; have z3 := L.z3; have v3 := L.v3; have t4 := L.t4; have a4 := L.a4; have z4 := L.z4; have v4 := L.v4; have a9 := L.a9; have z9 := L.z9; have v9 := L.v9; have t24 := L.t24; have a24 := L.a24; have z24 := L.z24; have v24 := L.v24
  have u0 := run_underlying L.t0; have u3 := run_underlying L.t3; have u4 := run_underlying L.t4; have u24 := run_underlying L.t24
  obtain ⟨nm, hf22⟩ := L.f22
  have mixed := L.mixed
  have hz1 : ¬ ((m : Int) = 0) := by omega
  obtain ⟨i0, hi0, hz0, hzs, hzb⟩ := info_parts L.i9
  have hsrc : Go.Src P i0.size (ρ.t 24) (.slice (some ⟨vb, voff, none⟩) m vc) m vs w := by
    rw [hzs]
    exact Go.Src.ofSlice w L.t24 ⟨vb, voff, none⟩ m vc vs hvl (fun j u hj => by rw [Addr.add_lit]; exact hvs j u hj) h1v
  go_enter hf22, Body2.n22_ntmps ρ
  go_wp2_with (at_builtin; refine wpList_append_room_src _ rfl _ _ (ρ.t 24) (ρ.t 24) rfl (ρ.t 9) i0 L.t24 hi0 b off n c rfl _ rfl m vs hsrc hroom (by rw [hzs, hvl]; exact hsp) (by rw [hzs, hvl]; exact hfz) ?_)
  go_ret
  exact ⟨rfl, rfl⟩

set_option maxHeartbeats 4000000 in
set_option maxRecDepth 100000 in
/-- At the end, no room (the nil slice too): a new row. -/
theorem ins4_end_grow (L : InsLay P ρ 4 zv B) (base : Option Addr) (n c vb voff m vc : Nat) (cs vs : List Value) (w : World) (hm : 0 < m) (hnc : n ≤ c) (hroom : c < n + m) (hbig : (n + m) * B ≤ 140737488355328) (zc : Array Value) (hzc : zv.cells = zc) (h63 : ((n + m : Nat) : Int) ≤ 9223372036854775807)
    (hcl : cs.length = n * 4) (hvl : vs.length = m * 4) (hnil : base = none → n = 0)
    (hcs : ∀ a, base = some a → ∀ j v, cs[j]? = some v → w.cell? (a.add j) = some v)
    (hvs : ∀ j v, vs[j]? = some v → w.cell? ⟨vb, voff + j, none⟩ = some v) (h1v : ∀ v ∈ vs, v.oneCell' = true) :
    Calls P (ρ.f 22) #[.slice base n c, .int .i64 n, .slice (some ⟨vb, voff, none⟩) m vc] w fun e w' =>
      e = .returned (.slice (some ⟨w.heap.size, 0, none⟩) (n + m) (grownCap w (n + m) c (ρ.t 9))) ∧
      w' = w.drew.alloc (.cells ((cs ++ vs).toArray ++ Builtin.zeroCells zc (grownCap w (n + m) c (ρ.t 9) - (n + m))) (ρ.t 9)) := by
  have t0 := L.t0; have a0 := L.a0; have z0 := L.z0; have v0 := L.v0; have t3 := L.t3; have a3 := L.a3; have z3 := L.z3; have v3 := L.v3; have t4 := L.t4; have a4 := L.a4; have z4 := L.z4; have v4 := L.v4; have a9 := L.a9; have z9 := L.z9; have v9 := L.v9; have t24 := L.t24; have a24 := L.a24; have z24 := L.z24; have v24 := L.v24
  have u0 := run_underlying L.t0; have u3 := run_underlying L.t3; have u4 := run_underlying L.t4; have u24 := run_underlying L.t24
  obtain ⟨nm, hf22⟩ := L.f22
  have mixed := L.mixed
  obtain ⟨i0, hi0, hz0, hzs, hzb⟩ := info_parts L.i9
  have hz1 : ¬ ((m : Int) = 0) := by omega
  have hsrc : Go.Src P i0.size (ρ.t 24) (.slice (some ⟨vb, voff, none⟩) m vc) m vs w := by
    rw [hzs]
    exact Go.Src.ofSlice w L.t24 ⟨vb, voff, none⟩ m vc vs hvl (fun j u hj => by rw [Addr.add_lit]; exact hvs j u hj) h1v
  have hold : (Builtin.firstCells i0.size n (.slice base n c)).run P w.drew = .ok cs.toArray w.drew := by
    rw [hzs]
    cases base with
    | none =>
      have h0 := hnil rfl
      subst h0
      rw [Nat.zero_mul] at hcl
      rw [List.length_eq_zero_iff.1 hcl]
      exact run_firstCells_none w.drew 4 0 0 c
    | some a => exact run_firstCells_some w.drew 4 n a n c cs hcl (fun j v hj => hcs a rfl j v hj)
  have hrun : ∀ ty, (Builtin.append_ #[(ρ.t 24), (ρ.t 24)] ty #[.slice base n c, .slice (some ⟨vb, voff, none⟩) m vc]).run P w = .ok (.slice (some ⟨w.heap.size, 0, none⟩) (n + m) (grownCap w (n + m) c (ρ.t 9))) (w.drew.alloc (.cells ((cs ++ vs).toArray ++ Builtin.zeroCells zc (grownCap w (n + m) c (ρ.t 9) - (n + m))) (ρ.t 9))) := fun ty => by
    rw [← hzc]
    exact run_append_grow_src w (ρ.t 24) (ρ.t 24) ty (ρ.t 9) i0 _ L.t24 hi0 hz0 base n c cs hold _ m vs hsrc hroom h63 (by rw [hzb]; exact growslice_fits hroom hbig)
  go_enter hf22, Body2.n22_ntmps ρ
  cases base with
  | none =>
    have h0 := hnil rfl
    subst h0
    go_wp2_with (at_builtin; refine Lib.wpList_append_run _ rfl _ _ _ _ rfl _ _ rfl rfl _ _ (hrun _) ?_)
    go_ret
    exact ⟨rfl, rfl⟩
  | some a =>
    obtain ⟨ab, ao, asp⟩ := a
    go_wp2_with (at_builtin; refine Lib.wpList_append_run _ rfl _ _ _ _ rfl _ _ rfl rfl _ _ (hrun _) ?_)
    all_goals (go_ret; exact ⟨rfl, rfl⟩)

set_option maxHeartbeats 4000000 in
set_option maxRecDepth 100000 in
/-- i < len(s), no room: a new row. -/
theorem ins4_grow (L : InsLay P ρ 4 zv B) (b off n c i vb voff m vc : Nat) (cs vs : List Value) (w : World) (hi : i < n) (hm : 0 < m) (hnc : n ≤ c) (hroom : c < n + m) (hbig : (n + m) * B ≤ 140737488355328) (hn32 : n + m ≤ 4611686018427387904)
    (hB : (n + m - i) * B ≤ 281474976710656) (hzv : zv.cells.size = 4) (hml : n + m ≤ Go.maxLen)
    (hcl : cs.length = n * 4) (hvl : vs.length = m * 4)
    (hcs : ∀ j v, cs[j]? = some v → w.cell? ⟨b, off + j, none⟩ = some v)
    (hvs : ∀ j v, vs[j]? = some v → w.cell? ⟨vb, voff + j, none⟩ = some v) (h1c : ∀ v ∈ cs, v.oneCell' = true) (h1v : ∀ v ∈ vs, v.oneCell' = true) :
    Calls P (ρ.f 22) #[.slice (some ⟨b, off, none⟩) n c, .int .i64 i, .slice (some ⟨vb, voff, none⟩) m vc] w fun e w' =>
      e = .returned (.slice (some ⟨w.heap.size, 0, none⟩) (n + m) (grownCap w (n + m) c (ρ.t 9))) ∧
      w' = (((w.alloc (.cells ((cs.take (i * 4)).toArray ++ Builtin.zeroCells zv.cells (n + m - i) ++ Builtin.zeroCells zv.cells (grownCap w (n + m) c (ρ.t 9) - (n + m))) (ρ.t 9))).drew.setCells w.heap.size (i * 4) vs).drew).setCells w.heap.size ((i + m) * 4) (cs.drop (i * 4)) := by
  have t0 := L.t0; have a0 := L.a0; have z0 := L.z0; have v0 := L.v0; have t3 := L.t3; have a3 := L.a3; have z3 := L.z3; have v3 := L.v3; have t4 := L.t4; have a4 := L.a4; have z4 := L.z4; have v4 := L.v4; have a9 := L.a9; have z9 := L.z9; have v9 := L.v9; have t24 := L.t24; have a24 := L.a24; have z24 := L.z24; have v24 := L.v24
  have u0 := run_underlying L.t0; have u3 := run_underlying L.t3; have u4 := run_underlying L.t4; have u24 := run_underlying L.t24
  obtain ⟨nm, hf22⟩ := L.f22
  have mixed := L.mixed
  obtain ⟨i0, hi0, hz0, hzs, hzb⟩ := info_parts L.i9
  have hz1 : ¬ ((m : Int) = 0) := by omega
  have hz2 : ¬ ((i : Int) = (n : Int)) := by omega
  have hz3 : (c : Int) < (n : Int) + (m : Int) := by omega
  have hsz : (P.info? (ρ.t 9)).map (·.size) = some 4 := by rw [hi0]; simp [hzs]
  have hbw : b < w.heap.size := block_lt_of_cell (hcs 0 _ (List.getElem?_eq_getElem (by omega)))
  have hvw : vb < w.heap.size := block_lt_of_cell (hvs 0 _ (List.getElem?_eq_getElem (by omega)))
  have hkk : (n : Int) + (m : Int) - (i : Int) = ((n + m - i : Nat) : Int) := by omega
  have hik : i + (n + m - i) = n + m := by omega
  have hold : (Builtin.firstCells i0.size i (.slice (some ⟨b, off, none⟩) i c)).run P w.drew = .ok (cs.take (i * 4)).toArray w.drew := by
    rw [hzs]
    exact run_firstCells_some w.drew 4 i ⟨b, off, none⟩ i c (cs.take (i * 4)) (by rw [List.length_take]; omega) (fun j v hj => by
      rw [Addr.add_lit]
      rw [List.getElem?_take] at hj
      split at hj
      · exact hcs j v hj
      · cases hj)
  have hrz : ∀ ty, (Builtin.append_ #[(ρ.t 24), (ρ.t 3)] ty #[.slice (some ⟨b, off, none⟩) i c, .int .i64 ((n : Int) + (m : Int) - (i : Int))]).run P w =
      .ok (.slice (some ⟨w.heap.size, 0, none⟩) (n + m) (grownCap w (n + m) c (ρ.t 9))) (w.drew.alloc (.cells ((cs.take (i * 4)).toArray ++ Builtin.zeroCells zv.cells (n + m - i) ++ Builtin.zeroCells zv.cells (grownCap w (n + m) c (ρ.t 9) - (n + m))) (ρ.t 9))) := fun ty => by
    have h := Lib.run_append_grow_zeros w (ρ.t 24) (ρ.t 3) ty (ρ.t 9) i0 _ .i64 .i64 L.t24 L.t3 hi0 hz0 (some ⟨b, off, none⟩) i c (cs.take (i * 4)) hold (n + m - i) (by omega) (by omega) (by omega) (by omega) (by rw [hzb]; exact hB) (by rw [hzb, hik]; exact growslice_fits hroom hbig)
    rw [hik] at h
    rw [hkk]
    exact h
  obtain ⟨G, hG⟩ : ∃ G, G = grownCap w (n + m) c (ρ.t 9) := ⟨_, rfl⟩
  obtain ⟨ROW, hROW⟩ : ∃ ROW : Array Value, ROW = (cs.take (i * 4)).toArray ++ Builtin.zeroCells zv.cells (n + m - i) ++ Builtin.zeroCells zv.cells (G - (n + m)) := ⟨_, rfl⟩
  rw [← hG] at hrz ⊢
  rw [← hROW] at hrz ⊢
  have hRl : (n + m) * 4 ≤ ROW.size := by
    rw [hROW]
    simp [Builtin.zeroCells, hzv]
    omega
  obtain ⟨W1, hW1⟩ : ∃ W1, W1 = w.drew.alloc (.cells ROW (ρ.t 9)) := ⟨_, rfl⟩
  rw [← hW1] at hrz
  have hN : ∀ j, j < (n + m) * 4 → (W1.cell? ⟨w.heap.size, j, none⟩).isSome = true := fun j hj => by
    rw [hW1, World.cell?_alloc_at (w := w.drew) ROW _ w.heap.size j rfl, Array.getElem?_eq_getElem (by omega)]; rfl
  have hNf : ∀ j, W1.frozen? ⟨w.heap.size, j, none⟩ = false := fun j => by rw [hW1]; exact World.frozen?_alloc_at (w := w.drew) ROW _ w.heap.size j rfl
  have hOb : ∀ j v, w.cell? ⟨b, j, none⟩ = some v → W1.cell? ⟨b, j, none⟩ = some v := fun j v h => by rw [hW1, World.cell?_alloc_past (w := w.drew) _ b j hbw]; exact h
  have hOv : ∀ j v, w.cell? ⟨vb, j, none⟩ = some v → W1.cell? ⟨vb, j, none⟩ = some v := fun j v h => by rw [hW1, World.cell?_alloc_past (w := w.drew) _ vb j hvw]; exact h
  have hcpA : ∀ (W : World), (∀ x, W.cell? x = W1.cell? x) → (∀ x, W.frozen? x = W1.frozen? x) → ∀ ty dc, (Builtin.copy_ #[(ρ.t 24), (ρ.t 24)] ty #[.slice (some ⟨w.heap.size, i * 4, none⟩) (n + m - i) dc, .slice (some ⟨vb, voff, none⟩) m vc]).run P W = .ok (goInt (m : Int)) (W.setCells w.heap.size (i * 4) vs) := fun W hWc hWf ty dc =>
    run_copy_z W _ _ ty (ρ.t 9) w.heap.size (i * 4) (n + m - i) dc ⟨vb, voff, none⟩ m vc 4 vs L.t24 hsz m (by simp only [Nat.min_def]; split <;> omega) hvl
      (fun j v hj => by rw [Addr.add_lit, hWc]; exact hOv _ v (hvs j v hj))
      (fun j hj => by rw [hWc]; exact hN _ (by omega)) (fun j hj => by rw [hWf]; exact hNf _) h1v
  have hGn : n + m ≤ G := by rw [hG]; exact grownCap_ge w _ _ _
  have hG63 : G ≤ 9223372036854775807 := by
    have := grownCap_le_maxLen w (n + m) c (ρ.t 9) hml
    rw [← hG] at this
    unfold Go.maxLen at this
    omega
  have hGi : ¬ (G = i) := by omega
  have hGim : ¬ (G = i + m) := by omega
  have hci : ¬ (c = i) := by omega
  have hbN : b ≠ w.heap.size := by omega
  have hdl : (cs.drop (i * 4)).length = (n - i) * 4 := by rw [List.length_drop, hcl]; omega
  have hcpB : ∀ (W : World), (∀ x, W.cell? x = (W1.setCells w.heap.size (i * 4) vs).cell? x) → (∀ x, W.frozen? x = (W1.setCells w.heap.size (i * 4) vs).frozen? x) → ∀ ty dc sc, (Builtin.copy_ #[(ρ.t 24), (ρ.t 24)] ty #[.slice (some ⟨w.heap.size, (i + m) * 4, none⟩) (n + m - (i + m)) dc, .slice (some ⟨b, off + i * 4, none⟩) (n - i) sc]).run P W = .ok (goInt ((n - i : Nat) : Int)) (W.setCells w.heap.size ((i + m) * 4) (cs.drop (i * 4))) := fun W hWc hWf ty dc sc =>
    run_copy_z W _ _ ty (ρ.t 9) w.heap.size ((i + m) * 4) (n + m - (i + m)) dc ⟨b, off + i * 4, none⟩ (n - i) sc 4 (cs.drop (i * 4)) L.t24 hsz (n - i) (by simp only [Nat.min_def]; split <;> omega) hdl
      (fun j v hj => by
        rw [Addr.add_lit, hWc, World.cell?_setCells_out _ _ _ _ _ (fun h _ => absurd h hbN), Nat.add_assoc]
        exact hOb _ v (hcs (i * 4 + j) v (by rwa [List.getElem?_drop] at hj)))
      (fun j hj => by rw [hWc]; exact isSome_setCells _ _ _ _ (fun t ht => hN _ (by omega)) _ (hN _ (by omega)))
      (fun j hj => by rw [hWf, World.frozen?_setCells]; exact hNf _) (fun v hv => h1c v (List.mem_of_mem_drop hv))
  subst hW1
  have hE1 : ∀ x, ((w.alloc (.cells ROW (ρ.t 9))).drew).cell? x = (w.drew.alloc (.cells ROW (ρ.t 9))).cell? x := fun x => rfl
  have hE2 : ∀ x, ((w.alloc (.cells ROW (ρ.t 9))).drew).frozen? x = (w.drew.alloc (.cells ROW (ρ.t 9))).frozen? x := fun x => rfl
  have hF1 : ∀ x, (((w.alloc (.cells ROW (ρ.t 9))).drew.setCells w.heap.size (i * 4) vs).drew).cell? x = ((w.drew.alloc (.cells ROW (ρ.t 9))).setCells w.heap.size (i * 4) vs).cell? x := fun x => rfl
  have hF2 : ∀ x, (((w.alloc (.cells ROW (ρ.t 9))).drew.setCells w.heap.size (i * 4) vs).drew).frozen? x = ((w.drew.alloc (.cells ROW (ρ.t 9))).setCells w.heap.size (i * 4) vs).frozen? x := fun x => rfl
  have hw1 : IntKind.i64.wrap ((i : Int) + (m : Int)) = (i : Int) + (m : Int) := by rw [IntKind.wrap_i64]; omega
  have hb1 : (0 : Int) ≤ (i : Int) + (m : Int) := by omega
  have hin : i ≤ n := by omega
  have htn : ((i : Int) + (m : Int)).toNat = i + m := by omega
  have hb3 : (i : Int) ≤ (n : Int) := by omega
  clear hkk hik hold hROW hG hRl
  go_enter hf22, Body2.n22_ntmps ρ
  go_wp2_with (first
    | (at_builtin; refine Lib.wpList_append_run _ rfl _ _ _ _ rfl _ _ rfl rfl _ _ (hrz _) ?_)
    | (at_builtin; refine wpList_copy_runI _ rfl _ _ (ρ.t 24) (ρ.t 24) rfl _ _ rfl rfl (hcpA _ hE1 hE2 _ _) ?_)
    | (at_builtin; refine wpList_copy_runI _ rfl _ _ (ρ.t 24) (ρ.t 24) rfl _ _ rfl rfl (hcpB _ (fun _ => rfl) (fun _ => rfl) _ _ _) ?_))
  go_region_law_o (refine step_copy_runI rfl _ _ (ρ.t 24) (ρ.t 24) rfl (.slice (some ⟨w.heap.size, (i + m) * 4, none⟩) (n + m - (i + m)) (G - (i + m))) (.slice (some ⟨b, off + i * 4, none⟩) (n - i) (c - i)) (by simp [Act.eval, Act.put]) (by simp [Act.eval, Act.put]) (hcpB _ hF1 hF2 (ρ.t 3) (G - (i + m)) (c - i)) ?_)
  go_wp2
  go_ret
  exact ⟨rfl, rfl⟩

theorem ins4_c (L : InsLay P ρ 4 zv B) {e : Ty} {n : FN (Int × List e.D × List e.D) (List e.D × List e.D)} (hn : n.f = fun x k => if 0 ≤ x.1 ∧ x.1 ≤ (x.2.1.length : Int) ∧ 0 < x.2.2.length ∧ x.2.1.length + x.2.2.length ≤ 1073741824 then k (x.2.2, insL x.2.1 x.1 x.2.2) else none)
    (zc : Array Value) (hB : B ≤ 64 := by decide) (hz : e.size = 4 := by rfl) (hzc : zv.cells = zc := by rfl) (hzs : zc.size = 4 := by rfl) : Contract P (ρ.f 22) (insG e n) := by
  intro args s k r hk
  unfold insG at hk
  split at hk
  · rename_i c0 x0 hcx
    obtain ⟨e1, e2⟩ := Sh.dec_enc hcx
    subst e1; subst e2
    rw [hn] at hk
    obtain ⟨ii, xs, ys⟩ := x0
    replace hk : (if 0 ≤ ii ∧ ii ≤ (xs.length : Int) ∧ 0 < ys.length ∧ xs.length + ys.length ≤ 1073741824 then k (.own 2) [.gone, .arr e ys, .arr e (insL xs ii ys)] else none) = some r := hk
    split at hk
    · rename_i hc
      have h := hk
      obtain ⟨c1, c2, c3, c4⟩ := hc
      obtain ⟨i, rfl⟩ := Int.eq_ofNat_of_zero_le c1
      change (i : Int) ≤ (xs.length : Int) at c2
      change 0 < ys.length at c3
      change xs.length + ys.length ≤ 1073741824 at c4
      refine ⟨_, _, h, fun X' μ w cargs inv hv => ?_⟩
      change Inv X' w.heap μ [.arr e xs, .arr e ys] at inv
      change RVs w.heap (Im X' w.heap μ [.arr e xs, .arr e ys]) μ [.arr e xs, .arr e ys] [.own 0, .int .i64 (i : Int), .own 1] cargs at hv
      simp only [RVs, RV] at hv
      obtain ⟨v0, t0, rfl, ⟨sl, hsl, a, rfl, ha⟩, v1, t1, rfl, rfl, v2, t2, rfl, ⟨sl', hsl', a', rfl, ha'⟩, rfl⟩ := hv
      show Calls P (ρ.f 22) #[.slice a xs.length sl.cap, .int .i64 (i : Int), .slice a' ys.length sl'.cap] w (Post X' w μ [.arr e xs, .arr e ys] (.own 2) [.gone, .arr e ys, .arr e (insL xs (i : Int) ys)])
      have hin : i ≤ xs.length := by omega
      have hzl : (insL xs (i : Int) ys).length = xs.length + ys.length := by unfold insL; simp; omega
      have hze : insL xs (i : Int) ys = xs.take i ++ ys ++ xs.drop i := rfl
      have hreg := inv.reg 0 sl hsl
      have hreg' := inv.reg 1 sl' hsl'
      change ArrOk w.heap _ sl e xs at hreg
      change ArrOk w.heap _ sl' e ys at hreg'
      have hcap' : 0 < sl'.cap := by
        rcases hreg' with ⟨_, _, h0⟩ | ⟨_, _, _, _, _, _, _, _, h5, _⟩
        · rw [h0] at c3; exact absurd c3 (Nat.lt_irrefl _)
        · omega
      obtain ⟨vb, cv, elv, frv, y1, y2, y3, y4, y5, y6, y7, y8⟩ := arr_cells hreg' hcap'
      obtain ⟨vb', hvb', rfl⟩ := ha'.resolve_left (by omega)
      rw [y1] at hvb'
      cases hvb'
      have hvblt : vb < w.heap.size := inv.blk_lt hsl' rfl y1
      rw [hz] at y4 y6 y7 y8
      have hvc := cell_take y2 (ys.length * 4)
      have hnn : xs.length ≤ sl.cap := by
        rcases hreg with ⟨_, _, h0⟩ | ⟨_, _, _, _, _, _, _, _, h5, _⟩
        · rw [h0]; exact Nat.zero_le _
        · exact h5
      generalize hvs : cv.toList.take (ys.length * 4) = vs at y6 y7 y8 hvc
      by_cases hroom : xs.length + ys.length ≤ sl.cap
      · -- there is room
        obtain ⟨b, c, el, fr, x1, x2, x3, x4, x5, x6, x7, x8⟩ := arr_cells hreg (by omega)
        obtain ⟨b', hb', rfl⟩ := ha.resolve_left (by omega)
        rw [x1] at hb'
        cases hb'
        have hne : vb ≠ b := fun e0 => inv.dis 0 1 sl sl' b (by omega) hsl hsl' rfl rfl x1 (e0 ▸ y1)
        rw [hz] at x4 x6 x7 x8
        have hle : (xs.length + ys.length) * 4 ≤ c.size := by omega
        have hxc := cell_take x2 (xs.length * 4)
        have hcs : ∀ j, j < c.size → (w.cell? ⟨b, j, none⟩).isSome = true := fun j hj => by rw [cell_of x2, Array.getElem?_eq_getElem hj]; rfl
        have hfz : ∀ j, j ≤ c.size → w.frozen? ⟨b, j, none⟩ = false := fun j hj => by simp only [World.frozen?, x2]; exact x3 j hj
        have hfv : ∀ j, j ≤ cv.size → w.frozen? ⟨vb, j, none⟩ = false := fun j hj => by simp only [World.frozen?, y2]; exact y3 j hj
        have hdrop : ∀ n, (c.toList.take (xs.length * 4)).take (n * 4) = c.toList.take (min (n * 4) (xs.length * 4)) := fun n => List.take_take ..
        generalize hcsl : c.toList.take (xs.length * 4) = cs at x6 x7 x8 hxc
        by_cases hend : i = xs.length
        · subst hend
          refine (ins4_end_room L b 0 xs.length sl.cap vb 0 ys.length sl'.cap vs w c3 hroom y6 (fun j hj => by rw [Nat.zero_add]; exact hcs _ (by omega)) (fun j hj => by rw [Nat.zero_add]; exact hfz _ (by omega)) (fun j v hj => by rw [Nat.zero_add]; exact hvc j v hj) y7).mono ?_
          rintro en w' ⟨rfl, rfl⟩
          rw [Nat.zero_add]
          obtain ⟨p1, p2, c', p3, p4⟩ := setCells_heap b el fr vs (xs.length * 4) w c x2 (by omega)
          have hsz : c'.size = c.size := by rw [← Array.length_toList, ← Array.length_toList, p4]; simp; omega
          refine ins_done inv hsl _ b sl.cap (xs.length + ys.length) (.inl x1) c' el fr (by rw [p1]; exact Nat.le_refl _) (fun k _ hk => p2 k hk) p3 (noFrz_size x3 hsz) (by rw [hsz, x4, hz]) (by rw [hzl]; exact hroom) ?_ (calm_setCells _ _ _ _) hzl
          have hs := ins_segs (D := c.toList.drop (xs.length * 4 + vs.length)) (R := Rep w.heap (Im X' w.heap μ [.arr e xs, .arr e ys]) e) x6 y6 x8 y8 xs.length (Nat.le_refl _)
          have e1 : cs.take (xs.length * 4) = cs := List.take_of_length_le (by omega)
          have e2 : cs.drop (xs.length * 4) = [] := List.drop_of_length_le (by omega)
          rw [e1, e2, List.append_nil] at hs
          rw [p4, hcsl, hz]
          exact hs
        · have hlt : i < xs.length := by omega
          have hsha : w.shape? vb = some (elv, cv.size) := by simp [World.shape?, y2]
          have hshb : w.shape? b = some (el, c.size) := by simp [World.shape?, x2]
          refine (ins4_shift L b 0 xs.length sl.cap i vb 0 ys.length sl'.cap cs vs w hlt c3 hroom c4 hne x6 y6 (fun j v hj => by rw [Nat.zero_add]; exact hxc j v hj) (fun j hj => by rw [Nat.zero_add]; exact hcs _ (by omega)) (fun j hj => by rw [Nat.zero_add]; exact hfz _ (by omega)) (fun j v hj => by rw [Nat.zero_add]; exact hvc j v hj) x7 y7 elv el cv.size c.size hsha hshb (by omega) (hfv _ (Nat.zero_le _)) (hfv _ (Nat.le_refl _))).mono ?_
          rintro en w' ⟨rfl, rfl⟩
          rw [Nat.zero_add, Nat.zero_add]
          have hdl : (cs.drop (i * 4)).length = (xs.length - i) * 4 := by rw [List.length_drop, x6]; omega
          obtain ⟨p1, p2, c', p3, p4⟩ := setCells_heap b el fr (cs.drop (i * 4)) ((i + ys.length) * 4) w.drew c x2 (by omega)
          have hsz : c'.size = c.size := by rw [← Array.length_toList, ← Array.length_toList, p4]; simp; omega
          obtain ⟨q1, q2, c2', q3, q4⟩ := setCells_heap b el fr vs (i * 4) (w.drew.setCells b ((i + ys.length) * 4) (cs.drop (i * 4))) c' p3 (by omega)
          have hsz2 : c2'.size = c.size := by rw [← hsz, ← Array.length_toList, ← Array.length_toList, q4]; simp; omega
          refine ins_done inv hsl _ b sl.cap (xs.length + ys.length) (.inl x1) c2' el fr (by rw [q1, p1]; exact Nat.le_refl _) (fun k _ hk => (q2 k hk).trans (p2 k hk)) q3 (noFrz_size x3 hsz2) (by rw [hsz2, x4, hz]) (by rw [hzl]; exact hroom) ?_ ((Calm.trans (b := w.drew) ⟨rfl, rfl, rfl⟩ (calm_setCells _ _ _ _)).trans (calm_setCells _ _ _ _)) hzl
          have hs := ins_segs (D := c.toList.drop ((i + ys.length) * 4 + (cs.drop (i * 4)).length)) (R := Rep w.heap (Im X' w.heap μ [.arr e xs, .arr e ys]) e) x6 y6 x8 y8 i hin
          rw [hz]
          have key : c2'.toList = cs.take (i * 4) ++ vs ++ cs.drop (i * 4) ++ c.toList.drop ((i + ys.length) * 4 + (cs.drop (i * 4)).length) := by
            rw [q4, p4]
            have f1 : (c.toList.take ((i + ys.length) * 4)).length = (i + ys.length) * 4 := by
              have hcl : c.toList.length = c.size := by simp
              rw [List.length_take]; omega
            rw [List.append_assoc (c.toList.take _), List.take_append_of_le_length (by omega), List.drop_append_of_le_length (by omega), List.drop_eq_nil_of_le (by omega), List.nil_append, List.take_take, Nat.min_eq_left (by omega), ← hcsl, List.take_take, Nat.min_eq_left (by omega)]
            simp only [List.append_assoc]
          rw [key]
          exact hs
      · -- a new row
        have hbig : (xs.length + ys.length) * B ≤ 140737488355328 := Nat.le_trans (Nat.mul_le_mul c4 hB) (by omega)
        have hgc : xs.length + ys.length ≤ grownCap w (xs.length + ys.length) sl.cap (ρ.t 9) := grownCap_ge w _ _ _
        have hpush : ∀ (ob : Obj) (b : Nat), b < w.heap.size → (w.heap.push ob)[b]? = w.heap[b]? := fun ob b hb => by rw [Array.getElem?_push]; simp [Nat.ne_of_lt hb]
        generalize hG : grownCap w (xs.length + ys.length) sl.cap (ρ.t 9) = G at hgc
        have hzl2 : ∀ n, (Builtin.zeroCells zc n).size = n * 4 := fun n => by simp [Builtin.zeroCells, hzs]
        obtain ⟨cs, x6, x7, x8, xc⟩ : ∃ cs : List Value, cs.length = xs.length * 4 ∧ (∀ v ∈ cs, v.oneCell' = true) ∧ (∀ i (hi : i < xs.length), Rep w.heap (Im X' w.heap μ [.arr e xs, .arr e ys]) e ((cs.drop (i * 4)).take 4) xs[i]) ∧
            (∀ ad, a = some ad → ∀ j v, cs[j]? = some v → w.cell? (ad.add j) = some v) := by
          by_cases h0 : sl.cap = 0
          · have hx0 : xs = [] := by
              have : xs.length = 0 := by omega
              simpa using this
            subst hx0
            exact ⟨[], by simp, by simp, fun i hi => absurd hi (Nat.not_lt_zero _), by simp⟩
          · obtain ⟨b, c, el, fr, x1, x2, x3, x4, x5, x6, x7, x8⟩ := arr_cells hreg (by omega)
            obtain ⟨b', hb', rfl⟩ := ha.resolve_left h0
            rw [x1] at hb'
            cases hb'
            rw [hz] at x6 x7 x8
            refine ⟨_, x6, x7, x8, ?_⟩
            rintro ad ⟨rfl⟩ j v hj
            rw [Addr.add_lit, Nat.zero_add]
            exact cell_take x2 _ j v hj
        by_cases hend : i = xs.length
        · subst hend
          refine (ins4_end_grow L a xs.length sl.cap vb 0 ys.length sl'.cap cs vs w c3 hnn (by omega) hbig zc hzc (by omega) x6 y6 (fun h0 => by
            rcases ha with ha | ⟨k, _, ha⟩
            · omega
            · rw [h0] at ha; cases ha) xc (fun j v hj => by rw [Nat.zero_add]; exact hvc j v hj) y7).mono ?_
          rintro en w' ⟨rfl, rfl⟩
          rw [hG]
          refine ins_done inv hsl _ w.heap.size G (xs.length + ys.length) (.inr rfl) ((cs ++ vs).toArray ++ Builtin.zeroCells zc (G - (xs.length + ys.length))) (ρ.t 9) (0, 0) (by show w.heap.size ≤ (w.heap.push _).size; simp) (fun b hb _ => hpush _ b hb) (by show (w.heap.push _)[w.heap.size]? = _; simp) (noFrz_new _) ?_ (by rw [hzl]; exact hgc) ?_ ⟨rfl, rfl, rfl⟩ hzl
          · rw [Array.size_append, hzl2, hz]
            simp [x6, y6]
            omega
          · have hs := ins_segs (D := (Builtin.zeroCells zc (G - (xs.length + ys.length))).toList) (R := Rep w.heap (Im X' w.heap μ [.arr e xs, .arr e ys]) e) x6 y6 x8 y8 xs.length (Nat.le_refl _)
            have e1 : cs.take (xs.length * 4) = cs := List.take_of_length_le (by omega)
            have e2 : cs.drop (xs.length * 4) = [] := List.drop_of_length_le (by omega)
            rw [e1, e2, List.append_nil] at hs
            rw [hz, Array.toList_append]
            exact hs
        · have hlt : i < xs.length := by omega
          obtain ⟨b, hb, rfl⟩ := ha.resolve_left (by omega)
          have hblt : b < w.heap.size := inv.blk_lt hsl rfl hb
          have hBB : (xs.length + ys.length - i) * B ≤ 281474976710656 := Nat.le_trans (Nat.mul_le_mul (show xs.length + ys.length - i ≤ 1073741824 by omega) hB) (by omega)
          refine (ins4_grow L b 0 xs.length sl.cap i vb 0 ys.length sl'.cap cs vs w hlt c3 hnn (by omega) hbig (by omega) hBB (by rw [hzc]; exact hzs) (by unfold Go.maxLen; omega) x6 y6 (fun j v hj => by have := xc _ rfl j v hj; rwa [Addr.add_lit] at this) (fun j v hj => by rw [Nat.zero_add]; exact hvc j v hj) x7 y7).mono ?_
          rintro en w' ⟨rfl, rfl⟩
          rw [hG, hzc]
          generalize hC0 : (cs.take (i * 4)).toArray ++ Builtin.zeroCells zc (xs.length + ys.length - i) ++ Builtin.zeroCells zc (G - (xs.length + ys.length)) = C0
          have hC0s : C0.size = G * 4 := by
            rw [← hC0, Array.size_append, Array.size_append, hzl2, hzl2]
            simp [x6]
            omega
          have hC0t : C0.toList.take (i * 4) = cs.take (i * 4) := by
            rw [← hC0, Array.toList_append, Array.toList_append, List.append_assoc, List.take_append_of_le_length (by simp [x6]; omega)]
            simp [List.take_take]
          have hdl : (cs.drop (i * 4)).length = (xs.length - i) * 4 := by rw [List.length_drop, x6]; omega
          have hk0 : (w.alloc (.cells C0 (ρ.t 9))).drew.heap[w.heap.size]? = some (.cells C0 (ρ.t 9) (0, 0)) := by show (w.heap.push _)[w.heap.size]? = _; simp
          obtain ⟨p1, p2, c', p3, p4⟩ := setCells_heap w.heap.size (ρ.t 9) (0, 0) vs (i * 4) _ C0 hk0 (by omega)
          have hsz : c'.size = C0.size := by rw [← Array.length_toList, ← Array.length_toList, p4]; simp; omega
          obtain ⟨q1, q2, c2', q3, q4⟩ := setCells_heap w.heap.size (ρ.t 9) (0, 0) (cs.drop (i * 4)) ((i + ys.length) * 4) ((w.alloc (.cells C0 (ρ.t 9))).drew.setCells w.heap.size (i * 4) vs).drew c' p3 (by omega)
          have hsz2 : c2'.size = C0.size := by rw [← hsz, ← Array.length_toList, ← Array.length_toList, q4]; simp; omega
          refine ins_done inv hsl _ w.heap.size G (xs.length + ys.length) (.inr rfl) c2' (ρ.t 9) (0, 0) ?_ (fun b hb hne => ?_) q3 (noFrz_new _) (by rw [hsz2, hC0s, hz]) (by rw [hzl]; exact hgc) ?_ ((Calm.trans (b := (w.alloc (.cells C0 (ρ.t 9))).drew) ⟨rfl, rfl, rfl⟩ (calm_setCells _ _ _ _)).trans (Calm.trans (b := ((w.alloc (.cells C0 (ρ.t 9))).drew.setCells w.heap.size (i * 4) vs).drew) ⟨rfl, rfl, rfl⟩ (calm_setCells _ _ _ _))) hzl
          · rw [q1]
            have : (w.alloc (.cells C0 (ρ.t 9))).drew.heap.size = w.heap.size + 1 := by show (w.heap.push _).size = _; simp
            have p1' : (((w.alloc (.cells C0 (ρ.t 9))).drew.setCells w.heap.size (i * 4) vs).drew).heap.size = w.heap.size + 1 := p1.trans this
            omega
          · exact (q2 b hne).trans ((p2 b hne).trans (hpush _ b hb))
          · have hs := ins_segs (D := c'.toList.drop ((i + ys.length) * 4 + (cs.drop (i * 4)).length)) (R := Rep w.heap (Im X' w.heap μ [.arr e xs, .arr e ys]) e) x6 y6 x8 y8 i hin
            rw [hz]
            have key : c2'.toList = cs.take (i * 4) ++ vs ++ cs.drop (i * 4) ++ c'.toList.drop ((i + ys.length) * 4 + (cs.drop (i * 4)).length) := by
              rw [q4]
              congr 2
              rw [p4, hC0t, List.take_append_of_le_length (by simp [x6, y6]; omega), List.take_of_length_le (by simp [x6, y6]; omega)]
            rw [key]
            exact hs
    · cases hk
  · cases hk

end Go.VE
