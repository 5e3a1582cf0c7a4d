/- A part of the proof, under no conditions of its own: A14. -/
import Derived.Test.YtkddeobmfhchfaaDoorA13
import Derived.Test.YtkddeobmfhchfaaDoorLS
namespace Go.Proofs.T
open Go Go.Ab Go.RowKit

/-! ## Joining -/

theorem grow_calls (n : Nat) (hn : n ≤ 1000000) (g d : Nat) : ACalls E 80 [.val (.slice none 0 0), dN n] [] g d (.own ⟨g, d, 1⟩ 0) [(⟨g, d, 1⟩, .arr 60 5 [])] := by
  refine acalls_row (l := [.slice none 0 0, .int .i64 n]) Tryd.call80 fun w0 _ w _ => ?_
  by_cases h0 : n = 0
  · subst h0
    refine (Any8.slices_Grow_room Tryd.layGrow none 0 0 0 w (by omega) (by omega) (by omega) (by omega)).mono ?_
    rintro e w' ⟨rfl, rfl⟩
    exact ⟨_, rfl, ⟨rfl, rfl, rfl, Nat.le_refl _, fun _ _ _ => rfl⟩, .inl rfl⟩
  · obtain ⟨i0, hi0⟩ : ∃ i0, Tryd.prog.info? 60 = some i0 := by
      cases h : Tryd.prog.info? 60 with
      | none => have := sz60; simp [szOf, h] at this
      | some i => exact ⟨i, rfl⟩
    have hs0 : i0.size = 5 := by have := sz60; simpa [szOf, hi0] using this
    have hb0 : i0.bytes = 72 := by have := by60; simpa [bytesOf, hi0] using this
    have hz0 := ze60
    simp only [zeroOf, hi0, Option.bind_some] at hz0
    refine (Any8.slices_Grow_grow Tryd.layGrow i0 _ hi0 hz0 (by omega) none 0 0 n [] w (by omega) (by omega) (by rw [hb0]; omega) (by omega) (by simp) (fun _ => rfl) (fun a h => by cases h)).mono ?_
    rintro e w' ⟨rfl, rfl⟩
    have hh : ∀ (A : Array Value) (T : TypeId), (w.drew.alloc (.cells A T)).heap[w.heap.size]? = some (.cells A T (0, 0)) := fun A T => by
      show (w.heap.push _)[w.heap.size]? = _
      exact Array.getElem?_push_size
    have ht : Tryd.layGrow_ren.t 25 = 60 := by kernel_rfl
    rw [ht]
    have hg : ∀ (A : Array Value) (T : TypeId), w.grownBy (w.drew.alloc (.cells A T)) none := fun A T => by
      refine ⟨rfl, rfl, rfl, ?_, fun k hk _ => ?_⟩
      · show w.heap.size ≤ (w.heap.push _).size
        rw [Array.size_push]
        omega
      · show (w.heap.push _)[k]? = _
        rw [Array.getElem?_push_lt hk, Array.getElem?_eq_getElem hk]
    refine ⟨_, rfl, hg _ _, .inr ⟨_, _, rfl, hh _ _, grownCap_le_maxLen _ _ _ _ (by unfold maxLen; omega), ?_⟩⟩
    · have h5 : (Value.agg #[.string ByteArray.empty, .string ByteArray.empty, .slice none 0 0, .int .i64 0, .int .i64 0]).cells.size = 5 := rfl
      have := grownCap_ge w n 0 60
      have e0 : (([] : List Value).toArray).size = 0 := rfl
      rw [Array.size_append, Array.size_append, size_zeroCells, size_zeroCells, h5, e0, Nat.zero_add n]
      revert this
      generalize grownCap w n 0 60 = c
      intro this
      omega


def flatF (ls : List (List Formal)) (k : Nat) : List Formal := (ls.take k).flatten
theorem flatF_succ (ls : List (List Formal)) (k : Nat) (h : k < ls.length) : flatF ls (k + 1) = flatF ls k ++ ls[k] := by
  unfold flatF
  rw [List.take_add_one, List.getElem?_eq_getElem h, List.flatten_append]
  simp only [Option.toList, List.flatten_cons, List.flatten_nil, List.append_nil]
theorem okRowsFm (l : List Formal) : okRows 5 (l.map encFm) := okRows_map 5 _ l fun _ => ⟨rfl, rfl⟩

theorem concat_calls (x : Bool) (ls : List (List Formal)) (hl : ls.length ≤ 1000) (hls : ∀ k, k ≤ ls.length → (flatF ls k).length ≤ 1000000) (g d : Nat) :
    ACalls E 68 [.sl x (ls.map slFm)] [] g d (slFm (flatF ls ls.length)) [] := by
  refine acalls_of_awp (fn := Tryd.f68) (N := 36) Tryd.call68 Tryd.func68 rfl rfl (by simp) ?_
  simp only [go_sem]
  refine awp_seq_k (fun K1 hK1 => ?_)
  refine awp_plain 1 (by kernel_rfl) rfl (fun g0 hg0 => ?_)
  simp only [go_sem]
  refine hK1 _ ?_
  refine awp_seq_k (fun K2 hK2 => ?_)
  refine awp_plain 1 (by kernel_rfl) rfl (fun g1 hg1 => ?_)
  simp only [go_sem]
  refine hK2 _ ?_
  refine awp_seq_k (fun K3 hK3 => ?_)
  refine awp_seq_k (fun K4 hK4 => ?_)
  refine awp_plain 3 (by kernel_rfl) rfl (fun g2 hg2 => ?_)
  simp only [go_sem]
  refine hK4 _ ?_
  refine awp_block ?_
  refine awp_loop (fun m s => ∃ k, k ≤ ls.length ∧ m = ls.length - k ∧
      Le { env := [(0, .sl x (ls.map slFm)), (3, dN (flatF ls k).length), (9, .sl x (ls.map slFm)), (10, dN ls.length), (11, dN k)], σ := [] } s) ls.length ?_ ?_
  · refine ⟨0, Nat.zero_le _, rfl, le_of ?_⟩
    simp only [go_sem, flatF]
    trivial
  · rintro m s ⟨k, hk, rfl, hle⟩
    refine awp_keep hle ?_
    clear hle
    by_cases h : k < ls.length
    · have hb := hls (k + 1) h
      have hb' : (flatF ls (k + 1)).length = (flatF ls k).length + ls[k].length := by rw [flatF_succ _ _ h, List.length_append]
      refine awp_seq_k (fun K5 hK5 => ?_)
      refine awp_plain 1 (by kernel_rfl) rfl (fun g3 hg3 => ?_)
      simp only [go_sem, h]
      refine hK5 _ ?_
      refine awp_seq_k (fun K6 hK6 => ?_)
      refine awp_t rfl ?_
      refine awp_skip ?_
      refine hK6 _ ?_
      refine awp_seq_k (fun K7 hK7 => ?_)
      refine awp_block ?_
      refine awp_seq_k (fun K8 hK8 => ?_)
      refine awp_plain 3 (by kernel_rfl) rfl (fun g4 hg4 => ?_)
      simp only [go_sem, getM h]
      refine hK8 _ ?_
      refine awp_seq_k (fun K9 hK9 => ?_)
      have h0 : ¬ (((flatF ls k).length : Int) + ls[k].length < 0) := by omega
      refine awp_plain 5 (by kernel_rfl) rfl (fun g5 hg5 => ?_)
      simp only [go_sem]
      try simp (disch := omega) only [wrapN]
      refine hK9 _ ?_
      refine awp_seq_k (fun K10 hK10 => ?_)
      refine awp_plain 2 (by kernel_rfl) rfl (fun g6 hg6 => ?_)
      simp only [go_sem, h0]
      refine hK10 _ ?_
      refine awp_f rfl ?_
      refine awp_skip ?_
      refine hK7 _ ?_
      refine awp_plain 2 (by kernel_rfl) rfl (fun g8 hg8 => ?_)
      simp only [go_sem]
      try simp (disch := omega) only [wrapN]
      refine ⟨_, ?_, k + 1, h, rfl, le_of ?_⟩
      · omega
      rw [hb']
      simp only [go_sem]
      omega
    · have : k = ls.length := by omega
      subst this
      have hb := hls _ (Nat.le_refl _)
      refine awp_seq_k (fun K11 hK11 => ?_)
      refine awp_plain 1 (by kernel_rfl) rfl (fun g3 hg3 => ?_)
      simp only [go_sem, h]
      refine hK11 _ ?_
      refine awp_seq_k (fun K12 hK12 => ?_)
      refine awp_f rfl ?_
      refine awp_exit ?_
      refine hK3 _ ?_
      refine awp_seq_k (fun K13 hK13 => ?_)
      refine awp_ops (by kernel_rfl) rfl (fun g9 hg9 ops9 KR9 hops9 hKR9 => ?_)
      refine aops_eval 1 hops9 ?_
      simp only [go_sem]
      refine aops_pure hops9 rfl rfl rfl (grow_calls _ hb _ _) (CoL.refl _) ?_
      refine aops_last 1 hops9 ?_
      simp only [go_sem]
      refine hKR9 _ ?_
      refine hK13 _ ?_
      refine awp_seq_k (fun K14 hK14 => ?_)
      refine awp_seq_k (fun K15 hK15 => ?_)
      refine awp_plain 3 (by kernel_rfl) rfl (fun g10 hg10 => ?_)
      simp only [go_sem]
      refine hK15 _ ?_
      refine awp_block ?_
      refine awp_loop (fun m s => ∃ k a i j, k ≤ ls.length ∧ m = ls.length - k ∧
          Le { env := [(6, .own ⟨a, i, j⟩ (flatF ls k).length), (25, .sl x (ls.map slFm)), (26, dN ls.length), (27, dN k)], σ := [(⟨a, i, j⟩, .arr 60 5 ((flatF ls k).map encFm))] } s) ls.length ?_ ?_
      · refine ⟨0, g9, 24, 1, Nat.zero_le _, rfl, le_of ?_⟩
        simp only [go_sem, flatF]
        trivial
      · rintro m s ⟨k, a, i, j, hk, rfl, hle⟩
        refine awp_keep hle ?_
        clear hle
        by_cases h : k < ls.length
        · have hb := hls (k + 1) h
          have hb' : (flatF ls (k + 1)).length = (flatF ls k).length + ls[k].length := by rw [flatF_succ _ _ h, List.length_append]
          refine awp_seq_k (fun K16 hK16 => ?_)
          refine awp_plain 1 (by kernel_rfl) rfl (fun g11 hg11 => ?_)
          simp only [go_sem, h]
          refine hK16 _ ?_
          refine awp_seq_k (fun K17 hK17 => ?_)
          refine awp_t rfl ?_
          refine awp_skip ?_
          refine hK17 _ ?_
          refine awp_seq_k (fun K18 hK18 => ?_)
          refine awp_block ?_
          refine awp_seq_k (fun K19 hK19 => ?_)
          refine awp_plain 3 (by kernel_rfl) rfl (fun g12 hg12 => ?_)
          simp only [go_sem, getM h]
          refine hK19 _ ?_
          refine awp_ops (by kernel_rfl) rfl (fun g13 hg13 ops13 KR13 hops13 hKR13 => ?_)
          refine aops_eval 2 hops13 ?_
          simp only [go_sem]
          refine aops_app hops13 rfl rfl rfl rfl rfl es46 sz60 by60 ze60 rfl (by decide) ?_
          simp only [go_sem, okRowsFm]
          first | refine ⟨⟨by omega, by omega⟩, ?_⟩ | skip
          refine aops_last 1 hops13 ?_
          simp only [go_sem]
          refine hKR13 _ ?_
          refine hK18 _ ?_
          refine awp_plain 2 (by kernel_rfl) rfl (fun g14 hg14 => ?_)
          simp only [go_sem]
          try simp (disch := omega) only [wrapN]
          refine ⟨_, ?_, k + 1, g13, 33, 0, h, rfl, le_of ?_⟩
          · omega
          rw [flatF_succ _ _ h]
          simp only [go_sem]
          omega
        · have : k = ls.length := by omega
          subst this
          refine awp_seq_k (fun K20 hK20 => ?_)
          refine awp_plain 1 (by kernel_rfl) rfl (fun g11 hg11 => ?_)
          simp only [go_sem, h]
          refine hK20 _ ?_
          refine awp_seq_k (fun K21 hK21 => ?_)
          refine awp_f rfl ?_
          refine awp_exit ?_
          refine hK14 _ ?_
          refine awp_seq_k (fun K22 hK22 => ?_)
          refine awp_plain 2 (by kernel_rfl) rfl (fun g15 hg15 => ?_)
          simp only [go_sem]
          refine hK22 _ ?_
          refine awp_ret ?_
          refine ret_frz ⟨a, i, j⟩ ?_
          simp only [go_sem]
          refine ends_ev rfl ?_
          simp only [go_sem]
          exact Co.refl _
theorem join_calls (x y : List Formal) (hx : x.length ≤ 400000) (hy : y.length ≤ 400000) (hx2 : ∀ f ∈ x, smFm f) (hy2 : ∀ f ∈ y, smFm f) (g d : Nat) :
    ACalls E 45 [slFm x, slFm y] [] g d (slFm (x ++ y)) [] := by
  generalize hz : x ++ y = z
  have hzl : z.length ≤ 1000000 := by rw [← hz, List.length_append]; omega
  have hz2 : ∀ f ∈ z, smFm f := fun f hf => by
    rw [← hz] at hf
    rcases List.mem_append.1 hf with h | h
    · exact hx2 f h
    · exact hy2 f h
  refine acalls_of_awp (fn := Tryd.f45) (N := 30) Tryd.call45 Tryd.func45 rfl rfl (by simp) ?_
  simp only [go_sem]
  refine awp_seq_k (fun K1 hK1 => ?_)
  refine awp_plain 1 (by kernel_rfl) rfl (fun g0 hg0 => ?_)
  simp only [go_sem]
  refine hK1 _ ?_
  refine awp_seq_k (fun K2 hK2 => ?_)
  refine awp_plain 1 (by kernel_rfl) rfl (fun g1 hg1 => ?_)
  simp only [go_sem]
  refine hK2 _ ?_
  refine awp_seq_k (fun K3 hK3 => ?_)
  refine awp_seq_k (fun K4 hK4 => ?_)
  refine awp_ops (by kernel_rfl) rfl (fun g2 hg2 ops2 KR2 hops2 hKR2 => ?_)
  refine aops_eval 3 hops2 ?_
  simp only [go_sem]
  have hc := concat_calls true [x, y] (by simp) (fun k hk => by
    have : flatF [x, y] k = [] ∨ flatF [x, y] k = x ∨ flatF [x, y] k = z := by
      match k, hk with
      | 0, _ => left; rfl
      | 1, _ => right; left; simp [flatF]
      | 2, _ => right; right; simp [flatF, hz]
      | k + 3, hk => simp at hk
    rcases this with h | h | h
    · rw [h]; simp
    · rw [h]; omega
    · rw [h]; exact hzl)
  have hfl : flatF [x, y] [x, y].length = z := by simp [flatF, hz]
  rw [hfl] at hc
  refine aops_pure hops2 rfl rfl rfl (hc _ _) (CoL.refl _) ?_
  refine aops_last 2 hops2 ?_
  simp only [go_sem]
  refine hKR2 _ ?_
  refine hK4 _ ?_
  refine awp_block ?_
  refine awp_nil 5 60 5 rfl fun gn hgn => ?_
  refine awp_loop (fun m s => ∃ k a i, k ≤ z.length ∧ m = z.length - k ∧
      Le { env := [(11, slFm z), (12, dN z.length), (13, dN k), (5, .own ⟨a, i, 0⟩ k)], σ := [(⟨a, i, 0⟩, .arr 60 5 ((z.take k).map encFm))] } s) z.length ?_ ?_
  · refine ⟨0, gn, 0, Nat.zero_le _, rfl, le_of ?_⟩
    simp only [go_sem]
    trivial
  · rintro m s ⟨k, a, i, hk, rfl, hle⟩
    refine awp_keep hle ?_
    clear hle
    by_cases h : k < z.length
    · refine awp_seq_k (fun K5 hK5 => ?_)
      refine awp_plain 1 (by kernel_rfl) rfl (fun g3 hg3 => ?_)
      simp only [go_sem, h]
      refine hK5 _ ?_
      refine awp_seq_k (fun K6 hK6 => ?_)
      refine awp_t rfl ?_
      refine awp_skip ?_
      refine hK6 _ ?_
      refine awp_seq_k (fun K7 hK7 => ?_)
      refine awp_block ?_
      refine awp_seq_k (fun K8 hK8 => ?_)
      refine awp_plain 4 (by kernel_rfl) rfl (fun g4 hg4 => ?_)
      simp only [go_sem, getM h]
      refine hK8 _ ?_
      have hn4_a : g4 ≠ a := fresh_g hg4 i 0 (by simp [go_sem])
      refine awp_any 10 (by kernel_rfl) (by kernel_rfl) rfl (fun g5 hg5 ops5 KR5 hops5 hKR5 => ?_)
      refine qrun_eval 5 hops5 ?_
      simp only [go_sem, Ne.symm hn4_a]
      refine qrun_pure hops5 rfl rfl rfl (clone_calls _ (hz2 _ (List.getElem_mem h)).2 _ _) (CoL.refl _) rfl ?_
      refine qrun_last 4 hops5 ?_
      simp only [go_sem, Ne.symm hn4_a]
      refine aops_eval 0 hops5 ?_
      simp only [go_sem]
      refine aops_app hops5 rfl rfl rfl rfl rfl es46 sz60 by60 ze60 rfl (by decide) ?_
      simp only [go_sem, List.length_take_of_le (Nat.le_of_lt h), hn4_a]
      first | refine ⟨⟨by omega, by omega⟩, ?_⟩ | skip
      refine aops_last 1 hops5 ?_
      simp only [go_sem]
      refine hKR5 _ ?_
      refine hK7 _ ?_
      refine awp_plain 2 (by kernel_rfl) rfl (fun g6 hg6 => ?_)
      simp only [go_sem]
      try simp (disch := omega) only [wrapN]
      refine ⟨_, ?_, k + 1, g5, 27, h, rfl, le_of ?_⟩
      · omega
      simp only [go_sem, ← takeM _ h]
      omega
    · refine awp_seq_k (fun K9 hK9 => ?_)
      refine awp_plain 1 (by kernel_rfl) rfl (fun g3 hg3 => ?_)
      simp only [go_sem, h]
      refine hK9 _ ?_
      refine awp_seq_k (fun K10 hK10 => ?_)
      refine awp_f rfl ?_
      refine awp_exit ?_
      refine hK3 _ ?_
      refine awp_seq_k (fun K11 hK11 => ?_)
      refine awp_plain 2 (by kernel_rfl) rfl (fun g7 hg7 => ?_)
      simp only [go_sem]
      refine hK11 _ ?_
      refine awp_ret ?_
      have : k = z.length := by omega
      subst this
      refine ret_frz ⟨a, i, 0⟩ ?_
      simp only [go_sem]
      refine ends_ev rfl ?_
      simp only [go_sem]
      exact Co.refl _

end Go.Proofs.T

