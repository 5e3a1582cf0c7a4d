/- A part of the proof, under no conditions of its own: ZAI. -/
import Derived.Test.YtkddeobmfhchfaaDoorZAH
namespace Go.Proofs.T
open Go Go.Ab Go.RowKit

theorem smSi.ok {s : Sig} (h : smSi s) : okSi s := by
  obtain ⟨h1, ⟨h2, h3⟩, ⟨h4, h5⟩, h6⟩ := h
  exact ⟨by omega, ⟨by omega, fun f hf => ⟨by have := (h3 f hf).1; omega, smTy.ok _ (h3 f hf).2⟩⟩, ⟨by omega, fun f hf => ⟨by have := (h5 f hf).1; omega, smTy.ok _ (h5 f hf).2⟩⟩, smTy.ok _ h6⟩


theorem refSig_calls (q : Bool) (s t : Sig) (hs : okSi s) (g d : Nat) : ACalls E 42 [encSi s, encSi t, dB q] [] g d (dB (refSi q s t)) [] := by
  obtain ⟨h1, ⟨h2, h3⟩, ⟨h4, h5⟩, h6⟩ := hs
  refine acalls_of_awp (fn := Tryd.f42) (N := 54) Tryd.call42 Tryd.func42 rfl rfl (by simp) ?_
  simp only [go_sem]
  refine awp_seq_k (fun K1 hK1 => ?_)
  refine awp_plain 3 (by kernel_rfl) rfl (fun g0 hg0 => ?_)
  simp only [go_sem]
  refine hK1 _ ?_
  refine awp_seq_k (fun K2 hK2 => ?_)
  refine awp_seq_k (fun K3 hK3 => ?_)
  by_cases hn : s.name = t.name
  · refine awp_ops (by kernel_rfl) rfl (fun g1 hg1 ops1 KR1 hops1 hKR1 => ?_)
    refine aops_eval 11 hops1 ?_
    simp only [go_sem, hn, decide_true]
    refine aops_pure hops1 rfl rfl rfl (refFormals_calls q _ _ h2 h3 _ _) (CoL.refl _) ?_
    cases hf : allB (refFm q) s.formals t.formals with
    | true =>
      refine aops_eval 8 hops1 ?_
      simp only [go_sem]
      refine aops_pure hops1 rfl rfl rfl (refParams_calls q _ _ h4 h5 _ _) (CoL.refl _) ?_
      cases hp : allB (refPa q) s.params t.params with
      | true =>
        refine aops_eval 7 hops1 ?_
        simp only [go_sem]
        refine aops_pure hops1 rfl rfl rfl (ref04Same_calls _ _ h6 _ _) (CoL.refl _) ?_
        cases hs : same s.result t.result with
        | true =>
          refine aops_last 2 hops1 ?_
          simp only [go_sem, show decide (cmpTy s.result t.result = 0) = true from hs]
          refine hKR1 _ ?_
          refine hK3 _ ?_
          refine awp_f rfl ?_
          refine awp_skip ?_
          refine hK2 _ ?_
          refine awp_seq_k (fun K4 hK4 => ?_)
          cases q with
          | false =>
            refine awp_plain 17 (by kernel_rfl) rfl (fun g3 hg3 => ?_)
            simp only [go_sem]
            refine hK4 _ ?_
            refine awp_ret ?_
            rw [show refSi false s t = true by simp [refSi, hn, hf, hp, hs]]
            refine ends_ev rfl ?_
            simp only [go_sem]
            exact Co.refl _
          | true =>
            by_cases hpo : s.pos = t.pos
            · refine awp_ops (by kernel_rfl) rfl (fun g3 hg3 ops3 KR3 hops3 hKR3 => ?_)
              refine aops_eval 13 hops3 ?_
              simp only [go_sem, hpo, decide_true]
              refine aops_pure hops3 rfl rfl rfl (ref04Equal_calls _ h6 _ _ _) (CoL.refl _) ?_
              refine aops_last 3 hops3 ?_
              simp only [go_sem]
              refine hKR3 _ ?_
              refine hK4 _ ?_
              refine awp_ret ?_
              rw [show refSi true s t = eqTy s.result t.result by simp [refSi, hn, hf, hp, hs, hpo]]
              refine ends_ev rfl ?_
              simp only [go_sem]
              exact Co.refl _
            · refine awp_plain 17 (by kernel_rfl) rfl (fun g3 hg3 => ?_)
              simp only [go_sem, hpo]
              refine hK4 _ ?_
              refine awp_ret ?_
              rw [show refSi true s t = false by simp [refSi, hpo]]
              refine ends_ev rfl ?_
              simp only [go_sem]
              exact Co.refl _
        | false =>
          refine aops_last 2 hops1 ?_
          simp only [go_sem, show decide (cmpTy s.result t.result = 0) = false from hs]
          refine hKR1 _ ?_
          refine hK3 _ ?_
          refine awp_t rfl ?_
          refine awp_seq_k (fun K5 hK5 => ?_)
          refine awp_plain 1 (by kernel_rfl) rfl (fun g2 hg2 => ?_)
          simp only [go_sem]
          refine hK5 _ ?_
          refine awp_ret ?_
          rw [show refSi q s t = false by simp [refSi, hs]]
          refine ends_ev rfl ?_
          simp only [go_sem]
          exact Co.refl _
      | false =>
        refine aops_last 10 hops1 ?_
        simp only [go_sem]
        refine hKR1 _ ?_
        refine hK3 _ ?_
        refine awp_t rfl ?_
        refine awp_seq_k (fun K6 hK6 => ?_)
        refine awp_plain 1 (by kernel_rfl) rfl (fun g2 hg2 => ?_)
        simp only [go_sem]
        refine hK6 _ ?_
        refine awp_ret ?_
        rw [show refSi q s t = false by simp [refSi, hp]]
        refine ends_ev rfl ?_
        simp only [go_sem]
        exact Co.refl _
    | false =>
      refine aops_last 19 hops1 ?_
      simp only [go_sem]
      refine hKR1 _ ?_
      refine hK3 _ ?_
      refine awp_t rfl ?_
      refine awp_seq_k (fun K7 hK7 => ?_)
      refine awp_plain 1 (by kernel_rfl) rfl (fun g2 hg2 => ?_)
      simp only [go_sem]
      refine hK7 _ ?_
      refine awp_ret ?_
      rw [show refSi q s t = false by simp [refSi, hf]]
      refine ends_ev rfl ?_
      simp only [go_sem]
      exact Co.refl _
  · refine awp_plain 31 (by kernel_rfl) rfl (fun g1 hg1 => ?_)
    simp only [go_sem, hn]
    refine hK3 _ ?_
    refine awp_t rfl ?_
    refine awp_seq_k (fun K8 hK8 => ?_)
    refine awp_plain 1 (by kernel_rfl) rfl (fun g2 hg2 => ?_)
    simp only [go_sem]
    refine hK8 _ ?_
    refine awp_ret ?_
    rw [show refSi q s t = false by simp [refSi, hn]]
    refine ends_ev rfl ?_
    simp only [go_sem]
    exact Co.refl _

theorem smCanon (s : Sig) (hs : smSi s) : smSi (canonSi s) := by
  obtain ⟨h1, ⟨h2, h3⟩, ⟨h4, h5⟩, h6⟩ := hs
  have hsub : ∀ t, smTy t → smTy (ownF s t) := fun t ht => smTy_subst (smLoc h2) t ht
  refine ⟨h1, ⟨by simpa [canonSi] using h2, fun f hf => ?_⟩, ⟨by simpa [canonSi] using h4, fun f hf => ?_⟩, hsub _ h6⟩
  · simp only [canonSi, List.mem_mapIdx, List.getElem_map, List.length_map] at hf
    obtain ⟨i, hi, rfl⟩ := hf
    have := decS_size i (by omega)
    have h : (localS i).size = 1 + (decS i).size := by simp [localS, ByteArray.size_append]; rfl
    exact ⟨by show (localS i).size ≤ _; omega, hsub _ (h3 _ (List.getElem_mem _)).2⟩
  · simp only [canonSi, List.mem_map] at hf
    obtain ⟨_, ⟨x, hx, rfl⟩, rfl⟩ := hf
    exact ⟨by show (0 : Nat) ≤ _; omega, hsub _ (h5 x hx).2⟩

def alike (s t : Sig) : Bool := sameSi (canonSi s) (canonSi t)

def applySi (s : Sig) (us : List Ty) : Sig := mapSi (substTy (s.formals.map (·.name)) us) s
def zeroTy : Ty := .mk ByteArray.empty [] 0
def zeroSi : Sig := ⟨ByteArray.empty, [], [], zeroTy, 0⟩
end Go.Proofs.T


namespace Go.Proofs.T
open Go Go.Ab Go.RowKit

/-! ## Bounds -/

/-- The bound of the first formal of this name. -/
def boundOf (l : List Formal) (t : Ty) : Option Ty := if t.args.length = 0 then (l.findIdx? fun f => isS t.name f.name).bind fun i => l[i]?.map (·.bound) else none

end Go.Proofs.T


namespace Go.Proofs.T
open Go Go.Ab Go.RowKit

/-! ## Joining -/

theorem grow_calls (n : Nat) (hn : n ≤ 1000000) (g d : Nat) : ACalls E 80 [.val (.slice none 0 0), dN n] [] g d (.own ⟨g, d, 1⟩ 0) [(⟨g, d, 1⟩, .arr 60 5 [])] := by
  refine acalls_row (l := [.slice none 0 0, .int .i64 n]) Tryd.call80 fun w0 _ w _ => ?_
  by_cases h0 : n = 0
  · subst h0
    refine (Any8.slices_Grow_room Tryd.layGrow none 0 0 0 w (by omega) (by omega) (by omega) (by omega)).mono ?_
    rintro e w' ⟨rfl, rfl⟩
    exact ⟨_, rfl, Gr.of ⟨rfl, rfl, rfl, Nat.le_refl _, fun _ _ _ => rfl⟩, .inl rfl⟩
  · obtain ⟨i0, hi0⟩ : ∃ i0, Tryd.prog.info? 60 = some i0 := by
      cases h : Tryd.prog.info? 60 with
      | none => have := sz60; simp [szOf, h] at this
      | some i => exact ⟨i, rfl⟩
    have hs0 : i0.size = 5 := by have := sz60; simpa [szOf, hi0] using this
    have hb0 : i0.bytes = 72 := by have := by60; simpa [bytesOf, hi0] using this
    have hz0 := ze60
    simp only [zeroOf, hi0, Option.bind_some] at hz0
    refine (Any8.slices_Grow_grow Tryd.layGrow i0 _ hi0 hz0 (by omega) none 0 0 n [] w (by omega) (by omega) (by rw [hb0]; omega) (by omega) (by simp) (fun _ => rfl) (fun a h => by cases h)).mono ?_
    rintro e w' ⟨rfl, rfl⟩
    have hh : ∀ (A : Array Value) (T : TypeId), (w.drew.alloc (.cells A T)).heap[w.heap.size]? = some (.cells A T (0, 0)) := fun A T => by
      show (w.heap.push _)[w.heap.size]? = _
      exact Array.getElem?_push_size
    have ht : Tryd.layGrow_ren.t 25 = 60 := by kernel_rfl
    rw [ht]
    have hg : ∀ (A : Array Value) (T : TypeId), Gr w (w.drew.alloc (.cells A T)) none := fun A T => by
      refine ⟨⟨rfl, rfl, rfl, ?_, fun k hk _ => ?_⟩, Nat.le_succ _⟩
      · show w.heap.size ≤ (w.heap.push _).size
        rw [Array.size_push]
        omega
      · show (w.heap.push _)[k]? = _
        rw [Array.getElem?_push_lt hk, Array.getElem?_eq_getElem hk]
    refine ⟨_, rfl, hg _ _, .inr ⟨_, _, rfl, hh _ _, grownCap_le_maxLen _ _ _ _ (by unfold maxLen; omega), ?_⟩⟩
    · have h5 : (Value.agg #[.string ByteArray.empty, .string ByteArray.empty, .slice none 0 0, .int .i64 0, .int .i64 0]).cells.size = 5 := rfl
      have := grownCap_ge w n 0 60
      have e0 : (([] : List Value).toArray).size = 0 := rfl
      rw [Array.size_append, Array.size_append, size_zeroCells, size_zeroCells, h5, e0, Nat.zero_add n]
      revert this
      generalize grownCap w n 0 60 = c
      intro this
      omega


def flatF (ls : List (List Formal)) (k : Nat) : List Formal := (ls.take k).flatten
theorem flatF_succ (ls : List (List Formal)) (k : Nat) (h : k < ls.length) : flatF ls (k + 1) = flatF ls k ++ ls[k] := by
  unfold flatF
  rw [List.take_add_one, List.getElem?_eq_getElem h, List.flatten_append]
  simp only [Option.toList, List.flatten_cons, List.flatten_nil, List.append_nil]
theorem okRowsFm (l : List Formal) : okRows 5 (l.map encFm) := okRows_map 5 _ l fun _ => ⟨rfl, rfl⟩

theorem concat_calls (x : Bool) (ls : List (List Formal)) (hl : ls.length ≤ 1000) (hls : ∀ k, k ≤ ls.length → (flatF ls k).length ≤ 1000000) (g d : Nat) :
    ACalls E 68 [.sl x (ls.map slFm)] [] g d (slFm (flatF ls ls.length)) [] := by
  refine acalls_of_awp (fn := Tryd.f68) (N := 36) Tryd.call68 Tryd.func68 rfl rfl (by simp) ?_
  simp only [go_sem]
  refine awp_seq_k (fun K1 hK1 => ?_)
  refine awp_plain 1 (by kernel_rfl) rfl (fun g0 hg0 => ?_)
  simp only [go_sem]
  refine hK1 _ ?_
  refine awp_seq_k (fun K2 hK2 => ?_)
  refine awp_plain 1 (by kernel_rfl) rfl (fun g1 hg1 => ?_)
  simp only [go_sem]
  refine hK2 _ ?_
  refine awp_seq_k (fun K3 hK3 => ?_)
  refine awp_seq_k (fun K4 hK4 => ?_)
  refine awp_plain 3 (by kernel_rfl) rfl (fun g2 hg2 => ?_)
  simp only [go_sem]
  refine hK4 _ ?_
  refine awp_block ?_
  refine awp_loop (fun m s => ∃ k, k ≤ ls.length ∧ m = ls.length - k ∧
      Le { env := [(0, .sl x (ls.map slFm)), (3, dN (flatF ls k).length), (9, .sl x (ls.map slFm)), (10, dN ls.length), (11, dN k)], σ := [] } s) ls.length ?_ ?_
  · refine ⟨0, Nat.zero_le _, rfl, le_of ?_⟩
    simp only [go_sem, flatF]
    trivial
  · rintro m s ⟨k, hk, rfl, hle⟩
    refine awp_keep hle ?_
    clear hle
    by_cases h : k < ls.length
    · have hb := hls (k + 1) h
      have hb' : (flatF ls (k + 1)).length = (flatF ls k).length + ls[k].length := by rw [flatF_succ _ _ h, List.length_append]
      refine awp_seq_k (fun K5 hK5 => ?_)
      refine awp_plain 1 (by kernel_rfl) rfl (fun g3 hg3 => ?_)
      simp only [go_sem, h]
      refine hK5 _ ?_
      refine awp_seq_k (fun K6 hK6 => ?_)
      refine awp_t rfl ?_
      refine awp_skip ?_
      refine hK6 _ ?_
      refine awp_seq_k (fun K7 hK7 => ?_)
      refine awp_block ?_
      refine awp_seq_k (fun K8 hK8 => ?_)
      refine awp_plain 3 (by kernel_rfl) rfl (fun g4 hg4 => ?_)
      simp only [go_sem, getM h]
      refine hK8 _ ?_
      refine awp_seq_k (fun K9 hK9 => ?_)
      have h0 : ¬ (((flatF ls k).length : Int) + ls[k].length < 0) := by omega
      refine awp_plain 5 (by kernel_rfl) rfl (fun g5 hg5 => ?_)
      simp only [go_sem]
      try simp (disch := omega) only [wrapN]
      refine hK9 _ ?_
      refine awp_seq_k (fun K10 hK10 => ?_)
      refine awp_plain 2 (by kernel_rfl) rfl (fun g6 hg6 => ?_)
      simp only [go_sem, h0]
      refine hK10 _ ?_
      refine awp_f rfl ?_
      refine awp_skip ?_
      refine hK7 _ ?_
      refine awp_plain 2 (by kernel_rfl) rfl (fun g8 hg8 => ?_)
      simp only [go_sem]
      try simp (disch := omega) only [wrapN]
      refine ⟨_, ?_, k + 1, h, rfl, le_of ?_⟩
      · omega
      rw [hb']
      simp only [go_sem]
      omega
    · have : k = ls.length := by omega
      subst this
      have hb := hls _ (Nat.le_refl _)
      refine awp_seq_k (fun K11 hK11 => ?_)
      refine awp_plain 1 (by kernel_rfl) rfl (fun g3 hg3 => ?_)
      simp only [go_sem, h]
      refine hK11 _ ?_
      refine awp_seq_k (fun K12 hK12 => ?_)
      refine awp_f rfl ?_
      refine awp_exit ?_
      refine hK3 _ ?_
      refine awp_seq_k (fun K13 hK13 => ?_)
      refine awp_ops (by kernel_rfl) rfl (fun g9 hg9 ops9 KR9 hops9 hKR9 => ?_)
      refine aops_eval 1 hops9 ?_
      simp only [go_sem]
      refine aops_pure hops9 rfl rfl rfl (grow_calls _ hb _ _) (CoL.refl _) ?_
      refine aops_last 1 hops9 ?_
      simp only [go_sem]
      refine hKR9 _ ?_
      refine hK13 _ ?_
      refine awp_seq_k (fun K14 hK14 => ?_)
      refine awp_seq_k (fun K15 hK15 => ?_)
      refine awp_plain 3 (by kernel_rfl) rfl (fun g10 hg10 => ?_)
      simp only [go_sem]
      refine hK15 _ ?_
      refine awp_block ?_
      refine awp_loop (fun m s => ∃ k a i j, k ≤ ls.length ∧ m = ls.length - k ∧
          Le { env := [(6, .own ⟨a, i, j⟩ (flatF ls k).length), (25, .sl x (ls.map slFm)), (26, dN ls.length), (27, dN k)], σ := [(⟨a, i, j⟩, .arr 60 5 ((flatF ls k).map encFm))] } s) ls.length ?_ ?_
      · refine ⟨0, g9, 24, 1, Nat.zero_le _, rfl, le_of ?_⟩
        simp only [go_sem, flatF]
        trivial
      · rintro m s ⟨k, a, i, j, hk, rfl, hle⟩
        refine awp_keep hle ?_
        clear hle
        by_cases h : k < ls.length
        · have hb := hls (k + 1) h
          have hb' : (flatF ls (k + 1)).length = (flatF ls k).length + ls[k].length := by rw [flatF_succ _ _ h, List.length_append]
          refine awp_seq_k (fun K16 hK16 => ?_)
          refine awp_plain 1 (by kernel_rfl) rfl (fun g11 hg11 => ?_)
          simp only [go_sem, h]
          refine hK16 _ ?_
          refine awp_seq_k (fun K17 hK17 => ?_)
          refine awp_t rfl ?_
          refine awp_skip ?_
          refine hK17 _ ?_
          refine awp_seq_k (fun K18 hK18 => ?_)
          refine awp_block ?_
          refine awp_seq_k (fun K19 hK19 => ?_)
          refine awp_plain 3 (by kernel_rfl) rfl (fun g12 hg12 => ?_)
          simp only [go_sem, getM h]
          refine hK19 _ ?_
          refine awp_ops (by kernel_rfl) rfl (fun g13 hg13 ops13 KR13 hops13 hKR13 => ?_)
          refine aops_eval 2 hops13 ?_
          simp only [go_sem]
          refine aops_app hops13 rfl rfl rfl rfl rfl es46 sz60 by60 ze60 rfl (by decide) ?_
          simp only [go_sem, okRowsFm]
          first | refine ⟨⟨by omega, by omega⟩, ?_⟩ | skip
          refine aops_last 1 hops13 ?_
          simp only [go_sem]
          refine hKR13 _ ?_
          refine hK18 _ ?_
          refine awp_plain 2 (by kernel_rfl) rfl (fun g14 hg14 => ?_)
          simp only [go_sem]
          try simp (disch := omega) only [wrapN]
          refine ⟨_, ?_, k + 1, g13, 33, 0, h, rfl, le_of ?_⟩
          · omega
          rw [flatF_succ _ _ h]
          simp only [go_sem]
          omega
        · have : k = ls.length := by omega
          subst this
          refine awp_seq_k (fun K20 hK20 => ?_)
          refine awp_plain 1 (by kernel_rfl) rfl (fun g11 hg11 => ?_)
          simp only [go_sem, h]
          refine hK20 _ ?_
          refine awp_seq_k (fun K21 hK21 => ?_)
          refine awp_f rfl ?_
          refine awp_exit ?_
          refine hK14 _ ?_
          refine awp_seq_k (fun K22 hK22 => ?_)
          refine awp_plain 2 (by kernel_rfl) rfl (fun g15 hg15 => ?_)
          simp only [go_sem]
          refine hK22 _ ?_
          refine awp_ret ?_
          refine ret_frz ⟨a, i, j⟩ ?_
          simp only [go_sem]
          refine ends_ev rfl ?_
          simp only [go_sem]
          exact Co.refl _
theorem join_calls (x y : List Formal) (hx : x.length ≤ 400000) (hy : y.length ≤ 400000) (hx2 : ∀ f ∈ x, smFm f) (hy2 : ∀ f ∈ y, smFm f) (g d : Nat) :
    ACalls E 45 [slFm x, slFm y] [] g d (slFm (x ++ y)) [] := by
  generalize hz : x ++ y = z
  have hzl : z.length ≤ 1000000 := by rw [← hz, List.length_append]; omega
  have hz2 : ∀ f ∈ z, smFm f := fun f hf => by
    rw [← hz] at hf
    rcases List.mem_append.1 hf with h | h
    · exact hx2 f h
    · exact hy2 f h
  refine acalls_of_awp (fn := Tryd.f45) (N := 30) Tryd.call45 Tryd.func45 rfl rfl (by simp) ?_
  simp only [go_sem]
  refine awp_seq_k (fun K1 hK1 => ?_)
  refine awp_plain 1 (by kernel_rfl) rfl (fun g0 hg0 => ?_)
  simp only [go_sem]
  refine hK1 _ ?_
  refine awp_seq_k (fun K2 hK2 => ?_)
  refine awp_plain 1 (by kernel_rfl) rfl (fun g1 hg1 => ?_)
  simp only [go_sem]
  refine hK2 _ ?_
  refine awp_seq_k (fun K3 hK3 => ?_)
  refine awp_seq_k (fun K4 hK4 => ?_)
  refine awp_ops (by kernel_rfl) rfl (fun g2 hg2 ops2 KR2 hops2 hKR2 => ?_)
  refine aops_eval 3 hops2 ?_
  simp only [go_sem]
  have hc := concat_calls true [x, y] (by simp) (fun k hk => by
    have : flatF [x, y] k = [] ∨ flatF [x, y] k = x ∨ flatF [x, y] k = z := by
      match k, hk with
      | 0, _ => left; rfl
      | 1, _ => right; left; simp [flatF]
      | 2, _ => right; right; simp [flatF, hz]
      | k + 3, hk => simp at hk
    rcases this with h | h | h
    · rw [h]; simp
    · rw [h]; omega
    · rw [h]; exact hzl)
  have hfl : flatF [x, y] [x, y].length = z := by simp [flatF, hz]
  rw [hfl] at hc
  refine aops_pure hops2 rfl rfl rfl (hc _ _) (CoL.refl _) ?_
  refine aops_last 2 hops2 ?_
  simp only [go_sem]
  refine hKR2 _ ?_
  refine hK4 _ ?_
  refine awp_block ?_
  refine awp_nil 5 60 5 rfl fun gn hgn => ?_
  refine awp_loop (fun m s => ∃ k a i, k ≤ z.length ∧ m = z.length - k ∧
      Le { env := [(11, slFm z), (12, dN z.length), (13, dN k), (5, .own ⟨a, i, 0⟩ k)], σ := [(⟨a, i, 0⟩, .arr 60 5 ((z.take k).map encFm))] } s) z.length ?_ ?_
  · refine ⟨0, gn, 0, Nat.zero_le _, rfl, le_of ?_⟩
    simp only [go_sem]
    trivial
  · rintro m s ⟨k, a, i, hk, rfl, hle⟩
    refine awp_keep hle ?_
    clear hle
    by_cases h : k < z.length
    · refine awp_seq_k (fun K5 hK5 => ?_)
      refine awp_plain 1 (by kernel_rfl) rfl (fun g3 hg3 => ?_)
      simp only [go_sem, h]
      refine hK5 _ ?_
      refine awp_seq_k (fun K6 hK6 => ?_)
      refine awp_t rfl ?_
      refine awp_skip ?_
      refine hK6 _ ?_
      refine awp_seq_k (fun K7 hK7 => ?_)
      refine awp_block ?_
      refine awp_seq_k (fun K8 hK8 => ?_)
      refine awp_plain 4 (by kernel_rfl) rfl (fun g4 hg4 => ?_)
      simp only [go_sem, getM h]
      refine hK8 _ ?_
      have hn4_a : g4 ≠ a := fresh_g hg4 i 0 (by simp [go_sem])
      refine awp_any 10 (by kernel_rfl) (by kernel_rfl) rfl (fun g5 hg5 ops5 KR5 hops5 hKR5 => ?_)
      refine qrun_eval 5 hops5 ?_
      simp only [go_sem, Ne.symm hn4_a]
      refine qrun_pure hops5 rfl rfl rfl (clone_calls _ (hz2 _ (List.getElem_mem h)).2 _ _) (CoL.refl _) rfl ?_
      refine qrun_last 4 hops5 ?_
      simp only [go_sem, Ne.symm hn4_a]
      refine aops_eval 0 hops5 ?_
      simp only [go_sem]
      refine aops_app hops5 rfl rfl rfl rfl rfl es46 sz60 by60 ze60 rfl (by decide) ?_
      simp only [go_sem, List.length_take_of_le (Nat.le_of_lt h), hn4_a]
      first | refine ⟨⟨by omega, by omega⟩, ?_⟩ | skip
      refine aops_last 1 hops5 ?_
      simp only [go_sem]
      refine hKR5 _ ?_
      refine hK7 _ ?_
      refine awp_plain 2 (by kernel_rfl) rfl (fun g6 hg6 => ?_)
      simp only [go_sem]
      try simp (disch := omega) only [wrapN]
      refine ⟨_, ?_, k + 1, g5, 27, h, rfl, le_of ?_⟩
      · omega
      simp only [go_sem, ← takeM _ h]
      omega
    · refine awp_seq_k (fun K9 hK9 => ?_)
      refine awp_plain 1 (by kernel_rfl) rfl (fun g3 hg3 => ?_)
      simp only [go_sem, h]
      refine hK9 _ ?_
      refine awp_seq_k (fun K10 hK10 => ?_)
      refine awp_f rfl ?_
      refine awp_exit ?_
      refine hK3 _ ?_
      refine awp_seq_k (fun K11 hK11 => ?_)
      refine awp_plain 2 (by kernel_rfl) rfl (fun g7 hg7 => ?_)
      simp only [go_sem]
      refine hK11 _ ?_
      refine awp_ret ?_
      have : k = z.length := by omega
      subst this
      refine ret_frz ⟨a, i, 0⟩ ?_
      simp only [go_sem]
      refine ends_ev rfl ?_
      simp only [go_sem]
      exact Co.refl _

end Go.Proofs.T


namespace Go.Proofs.T
open Go Go.Ab Go.RowKit

/-! ## Counting -/

/-- Counting goes on while it is small. -/
def cnt {α : Type} (f : α → Nat → Nat) : List α → Nat → Nat
  | [], n => n
  | a :: r, n => if n ≤ 2000 then cnt f r (f a n) else n
theorem cnt_stop {α : Type} {f : α → Nat → Nat} {l : List α} {n : Nat} (h : ¬ n ≤ 2000) : cnt f l n = n := by cases l <;> simp [cnt, h]
theorem cnt_bound {α : Type} {f : α → Nat → Nat} (M : Nat) : ∀ (l : List α) (n : Nat), (∀ a ∈ l, ∀ n, n ≤ 2000 → f a n ≤ M) → cnt f l n ≤ Nat.max n M
  | [], n, _ => Nat.le_max_left ..
  | a :: r, n, h => by
    simp only [cnt]
    split
    · rename_i hn
      refine Nat.le_trans (cnt_bound M r (f a n) fun x hx => h x (List.mem_cons_of_mem _ hx)) ?_
      exact Nat.max_le.2 ⟨Nat.le_trans (h a List.mem_cons_self n hn) (Nat.le_max_right ..), Nat.le_max_right ..⟩
    · exact Nat.le_max_left ..
theorem cnt_step {α : Type} {f : α → Nat → Nat} {l : List α} {k n : Nat} (h : k < l.length) (hn : n ≤ 2000) : cnt f (l.drop k) n = cnt f (l.drop (k + 1)) (f l[k] n) := by
  rw [dropC _ _ h]; simp only [cnt]; rw [if_pos hn]
theorem countL_cnt : ∀ (l : List Ty) (n : Nat), countL l n = cnt count l n
  | [], n => by simp [countL, cnt]
  | t :: r, n => by simp only [countL, cnt, countL_cnt r]

def cntPa (p : Param) (n : Nat) : Nat := count p.type (n + 1 + p.name.size / 50)
def cntFm (p : Formal) (n : Nat) : Nat := count p.bound (n + 1 + p.name.size / 50)
def cntSi (s : Sig) (n : Nat) : Nat := count s.result (cnt cntPa s.params (cnt cntFm s.formals (n + s.name.size / 50)))

theorem lemax (a b c : Nat) (h : c ≤ Nat.max a b) : c ≤ a ∨ c ≤ b := by
  rcases Nat.le_total a b with h1 | h1
  · right; rwa [show Nat.max a b = b from Nat.max_eq_right h1] at h
  · left; rwa [show Nat.max a b = a from Nat.max_eq_left h1] at h

theorem count_le (t : Ty) (n : Nat) (h : okTy t) : count t n ≤ n + big ∨ count t n ≤ 2000 + big := by
  have := count_bound t n h
  rcases Nat.le_total n 2000 with h1 | h1
  · right; rwa [show Nat.max n 2000 = 2000 from Nat.max_eq_right h1] at this
  · left; rwa [show Nat.max n 2000 = n from Nat.max_eq_left h1] at this
theorem cnt_le {α : Type} {f : α → Nat → Nat} (M : Nat) (l : List α) (n : Nat) (h : ∀ a ∈ l, ∀ n, n ≤ 2000 → f a n ≤ M) : cnt f l n ≤ n ∨ cnt f l n ≤ M := lemax _ _ _ (cnt_bound M l n h)
theorem cntPa_le (p : Param) (h : okPa p) (n : Nat) (hn : n ≤ 2000) : cntPa p n ≤ 3 * big := by
  have h1 := h.1
  have := count_le p.type (n + 1 + p.name.size / 50) h.2
  unfold cntPa
  unfold big at *
  omega
theorem cntFm_le (p : Formal) (h : okFm p) (n : Nat) (hn : n ≤ 2000) : cntFm p n ≤ 3 * big := by
  have h1 := h.1
  have := count_le p.bound (n + 1 + p.name.size / 50) h.2
  unfold cntFm
  unfold big at *
  omega
theorem cntSi_le (s : Sig) (h : okSi s) (n : Nat) : cntSi s n ≤ n + 6 * big := by
  obtain ⟨h1, ⟨h2, h3⟩, ⟨h4, h5⟩, h6⟩ := h
  have a1 := cnt_le (3 * big) s.formals (n + s.name.size / 50) (fun a ha n hn => cntFm_le a (h3 a ha) n hn)
  have a2 := cnt_le (3 * big) s.params (cnt cntFm s.formals (n + s.name.size / 50)) (fun a ha n hn => cntPa_le a (h5 a ha) n hn)
  have a3 := count_le s.result (cnt cntPa s.params (cnt cntFm s.formals (n + s.name.size / 50))) h6
  unfold cntSi
  unfold big at *
  omega


theorem cntPa_calls (l : List Param) (n : Nat) (hl : l.length ≤ 9223372036854775807) (hl2 : ∀ a ∈ l, okPa a) (hn : n ≤ 3000000000000000000) (g d : Nat) : ACalls E 53 [slPa l, dN n] [] g d (dN (cnt cntPa l n)) [] := by
  have hbig : big = 184467440737097518 := rfl
  refine acalls_of_awp (fn := Tryd.f53) (N := 33) Tryd.call53 Tryd.func53 rfl rfl (by simp) ?_
  simp only [go_sem]
  refine awp_seq_k (fun K1 hK1 => ?_)
  refine awp_plain 1 (by kernel_rfl) rfl (fun g0 hg0 => ?_)
  simp only [go_sem]
  refine hK1 _ ?_
  refine awp_seq_k (fun K2 hK2 => ?_)
  refine awp_seq_k (fun K3 hK3 => ?_)
  refine awp_plain 1 (by kernel_rfl) rfl (fun g1 hg1 => ?_)
  simp only [go_sem]
  refine hK3 _ ?_
  refine awp_block ?_
  refine awp_loop (fun m s => ∃ k n', k ≤ l.length ∧ m = l.length - k ∧ n' ≤ n + 3 * big ∧ cnt cntPa (l.drop k) n' = cnt cntPa l n ∧
      Le { env := [(0, slPa l), (1, dN n'), (5, dN k)], σ := [] } s) l.length ?_ ?_
  · refine ⟨0, n, Nat.zero_le _, rfl, by omega, rfl, le_of ?_⟩
    simp only [go_sem]
    trivial
  · rintro m s ⟨k, n', hk, rfl, hn', hc, hle⟩
    refine awp_keep hle ?_
    clear hle
    by_cases hlt : k < l.length
    · have g1 := getM (f := encPa) hlt
      by_cases hle : n' ≤ 2000
      · have hle' : (n' : Int) ≤ 2000 := by omega
        have h1 := (hl2 _ (List.getElem_mem hlt)).1
        have h3 := cntPa_le _ (hl2 _ (List.getElem_mem hlt)) n' hle
        refine awp_seq_k (fun K4 hK4 => ?_)
        refine awp_seq_k (fun K5 hK5 => ?_)
        refine awp_plain 8 (by kernel_rfl) rfl (fun g2 hg2 => ?_)
        simp only [go_sem, hle', hlt]
        refine hK5 _ ?_
        refine awp_t rfl ?_
        refine awp_skip ?_
        refine hK4 _ ?_
        refine awp_seq_k (fun K6 hK6 => ?_)
        refine awp_block ?_
        refine awp_any 16 (by kernel_rfl) (by kernel_rfl) rfl (fun g4 hg4 ops4 KR4 hops4 hKR4 => ?_)
        refine qrun_eval 15 hops4 ?_
        simp only [go_sem, g1]
        try simp (disch := omega) only [wrapN, Int.tdiv_eq_ediv_of_nonneg]
        refine qrun_pure hops4 rfl rfl rfl (count_calls _ (hl2 _ (List.getElem_mem hlt)).2 (n' + 1 + l[k].name.size / 50) _ _ (by omega)) (CoL.refl _) rfl ?_
        refine qrun_last 0 hops4 ?_
        simp only [go_sem]
        refine aops_last 1 hops4 ?_
        simp only [go_sem]
        refine hKR4 _ ?_
        refine hK6 _ ?_
        refine awp_plain 3 (by kernel_rfl) rfl (fun g3 hg3 => ?_)
        simp only [go_sem]
        try simp (disch := omega) only [wrapN]
        rw [cnt_step hlt hle] at hc
        refine ⟨_, ?_, k + 1, cntPa l[k] n', hlt, rfl, by omega, hc, le_of ?_⟩
        · omega
        simp only [go_sem, cntPa]
        omega
      · have hle' : ¬ (n' : Int) ≤ 2000 := by omega
        refine awp_seq_k (fun K7 hK7 => ?_)
        refine awp_seq_k (fun K8 hK8 => ?_)
        refine awp_plain 8 (by kernel_rfl) rfl (fun g2 hg2 => ?_)
        simp only [go_sem, hle', hlt]
        refine hK8 _ ?_
        rw [cnt_stop hle] at hc
        subst hc
        refine awp_f rfl ?_
        refine awp_exit ?_
        refine hK2 _ ?_
        refine awp_seq_k (fun K9 hK9 => ?_)
        refine awp_plain 2 (by kernel_rfl) rfl (fun g5 hg5 => ?_)
        simp only [go_sem]
        refine hK9 _ ?_
        refine awp_ret ?_
        refine ends_ev rfl ?_
        simp only [go_sem]
        exact Co.refl _
    · refine awp_seq_k (fun K10 hK10 => ?_)
      refine awp_seq_k (fun K11 hK11 => ?_)
      refine awp_plain 8 (by kernel_rfl) rfl (fun g2 hg2 => ?_)
      simp only [go_sem, hlt]
      refine hK11 _ ?_
      rw [dropN _ _ (by omega)] at hc
      simp only [cnt] at hc
      subst hc
      refine awp_f rfl ?_
      refine awp_exit ?_
      refine hK2 _ ?_
      refine awp_seq_k (fun K12 hK12 => ?_)
      refine awp_plain 2 (by kernel_rfl) rfl (fun g5 hg5 => ?_)
      simp only [go_sem]
      refine hK12 _ ?_
      refine awp_ret ?_
      refine ends_ev rfl ?_
      simp only [go_sem]
      exact Co.refl _

theorem cntFm_calls (l : List Formal) (n : Nat) (hl : l.length ≤ 9223372036854775807) (hl2 : ∀ a ∈ l, okFm a) (hn : n ≤ 3000000000000000000) (g d : Nat) : ACalls E 54 [slFm l, dN n] [] g d (dN (cnt cntFm l n)) [] := by
  have hbig : big = 184467440737097518 := rfl
  refine acalls_of_awp (fn := Tryd.f54) (N := 33) Tryd.call54 Tryd.func54 rfl rfl (by simp) ?_
  simp only [go_sem]
  refine awp_seq_k (fun K1 hK1 => ?_)
  refine awp_plain 1 (by kernel_rfl) rfl (fun g0 hg0 => ?_)
  simp only [go_sem]
  refine hK1 _ ?_
  refine awp_seq_k (fun K2 hK2 => ?_)
  refine awp_seq_k (fun K3 hK3 => ?_)
  refine awp_plain 1 (by kernel_rfl) rfl (fun g1 hg1 => ?_)
  simp only [go_sem]
  refine hK3 _ ?_
  refine awp_block ?_
  refine awp_loop (fun m s => ∃ k n', k ≤ l.length ∧ m = l.length - k ∧ n' ≤ n + 3 * big ∧ cnt cntFm (l.drop k) n' = cnt cntFm l n ∧
      Le { env := [(0, slFm l), (1, dN n'), (5, dN k)], σ := [] } s) l.length ?_ ?_
  · refine ⟨0, n, Nat.zero_le _, rfl, by omega, rfl, le_of ?_⟩
    simp only [go_sem]
    trivial
  · rintro m s ⟨k, n', hk, rfl, hn', hc, hle⟩
    refine awp_keep hle ?_
    clear hle
    by_cases hlt : k < l.length
    · have g1 := getM (f := encFm) hlt
      by_cases hle : n' ≤ 2000
      · have hle' : (n' : Int) ≤ 2000 := by omega
        have h1 := (hl2 _ (List.getElem_mem hlt)).1
        have h3 := cntFm_le _ (hl2 _ (List.getElem_mem hlt)) n' hle
        refine awp_seq_k (fun K4 hK4 => ?_)
        refine awp_seq_k (fun K5 hK5 => ?_)
        refine awp_plain 8 (by kernel_rfl) rfl (fun g2 hg2 => ?_)
        simp only [go_sem, hle', hlt]
        refine hK5 _ ?_
        refine awp_t rfl ?_
        refine awp_skip ?_
        refine hK4 _ ?_
        refine awp_seq_k (fun K6 hK6 => ?_)
        refine awp_block ?_
        refine awp_any 16 (by kernel_rfl) (by kernel_rfl) rfl (fun g4 hg4 ops4 KR4 hops4 hKR4 => ?_)
        refine qrun_eval 15 hops4 ?_
        simp only [go_sem, g1]
        try simp (disch := omega) only [wrapN, Int.tdiv_eq_ediv_of_nonneg]
        refine qrun_pure hops4 rfl rfl rfl (count_calls _ (hl2 _ (List.getElem_mem hlt)).2 (n' + 1 + l[k].name.size / 50) _ _ (by omega)) (CoL.refl _) rfl ?_
        refine qrun_last 0 hops4 ?_
        simp only [go_sem]
        refine aops_last 1 hops4 ?_
        simp only [go_sem]
        refine hKR4 _ ?_
        refine hK6 _ ?_
        refine awp_plain 3 (by kernel_rfl) rfl (fun g3 hg3 => ?_)
        simp only [go_sem]
        try simp (disch := omega) only [wrapN]
        rw [cnt_step hlt hle] at hc
        refine ⟨_, ?_, k + 1, cntFm l[k] n', hlt, rfl, by omega, hc, le_of ?_⟩
        · omega
        simp only [go_sem, cntFm]
        omega
      · have hle' : ¬ (n' : Int) ≤ 2000 := by omega
        refine awp_seq_k (fun K7 hK7 => ?_)
        refine awp_seq_k (fun K8 hK8 => ?_)
        refine awp_plain 8 (by kernel_rfl) rfl (fun g2 hg2 => ?_)
        simp only [go_sem, hle', hlt]
        refine hK8 _ ?_
        rw [cnt_stop hle] at hc
        subst hc
        refine awp_f rfl ?_
        refine awp_exit ?_
        refine hK2 _ ?_
        refine awp_seq_k (fun K9 hK9 => ?_)
        refine awp_plain 2 (by kernel_rfl) rfl (fun g5 hg5 => ?_)
        simp only [go_sem]
        refine hK9 _ ?_
        refine awp_ret ?_
        refine ends_ev rfl ?_
        simp only [go_sem]
        exact Co.refl _
    · refine awp_seq_k (fun K10 hK10 => ?_)
      refine awp_seq_k (fun K11 hK11 => ?_)
      refine awp_plain 8 (by kernel_rfl) rfl (fun g2 hg2 => ?_)
      simp only [go_sem, hlt]
      refine hK11 _ ?_
      rw [dropN _ _ (by omega)] at hc
      simp only [cnt] at hc
      subst hc
      refine awp_f rfl ?_
      refine awp_exit ?_
      refine hK2 _ ?_
      refine awp_seq_k (fun K12 hK12 => ?_)
      refine awp_plain 2 (by kernel_rfl) rfl (fun g5 hg5 => ?_)
      simp only [go_sem]
      refine hK12 _ ?_
      refine awp_ret ?_
      refine ends_ev rfl ?_
      simp only [go_sem]
      exact Co.refl _

theorem cntSi_calls (s : Sig) (n : Nat) (hs : okSi s) (hn : n ≤ 1500000000000000000) (g d : Nat) : ACalls E 55 [encSi s, dN n] [] g d (dN (cntSi s n)) [] := by
  have hbig : big = 184467440737097518 := rfl
  obtain ⟨h1, ⟨h2, h3⟩, ⟨h4, h5⟩, h6⟩ := hs
  have a1 := cnt_le (3 * big) s.formals (n + s.name.size / 50) (fun a ha n hn => cntFm_le a (h3 a ha) n hn)
  have a2 := cnt_le (3 * big) s.params (cnt cntFm s.formals (n + s.name.size / 50)) (fun a ha n hn => cntPa_le a (h5 a ha) n hn)
  refine acalls_of_awp (fn := Tryd.f55) (N := 20) Tryd.call55 Tryd.func55 rfl rfl (by simp) ?_
  simp only [go_sem]
  refine awp_seq_k (fun K1 hK1 => ?_)
  refine awp_plain 2 (by kernel_rfl) rfl (fun g0 hg0 => ?_)
  simp only [go_sem]
  refine hK1 _ ?_
  refine awp_seq_k (fun K2 hK2 => ?_)
  refine awp_any 15 (by kernel_rfl) (by kernel_rfl) rfl (fun g1 hg1 ops1 KR1 hops1 hKR1 => ?_)
  refine qrun_eval 12 hops1 ?_
  simp only [go_sem]
  try simp (disch := omega) only [wrapN, Int.tdiv_eq_ediv_of_nonneg]
  refine qrun_pure hops1 rfl rfl rfl (cntFm_calls s.formals (n + s.name.size / 50) h2 h3 (by omega) _ _) (CoL.refl _) rfl ?_
  refine qrun_pure hops1 rfl rfl rfl (cntPa_calls s.params _ h4 h5 (by omega) _ _) (CoL.refl _) rfl ?_
  refine qrun_pure hops1 rfl rfl rfl (count_calls _ h6 _ _ _ (by omega)) (CoL.refl _) rfl ?_
  refine qrun_last 0 hops1 ?_
  simp only [go_sem]
  refine aops_last 1 hops1 ?_
  simp only [go_sem]
  refine hKR1 _ ?_
  refine hK2 _ ?_
  refine awp_ret ?_
  refine ends_ev rfl ?_
  simp only [go_sem]
  exact Co.refl _

end Go.Proofs.T


namespace Go.Proofs.T
open Go Go.Ab Go.RowKit

/-! ## Counting programs -/

mutual
def countEx : Ex → Nat → Nat
  | .mk _ nm ty ta ks _, n => countExs ks (cnt count ta (count ty (n + nm.size / 50)))
def countExs : List Ex → Nat → Nat
  | [], n => n
  | t :: r, n => if n ≤ 2000 then countExs r (countEx t n) else n
end
theorem countExs_cnt : ∀ (l : List Ex) (n : Nat), countExs l n = cnt countEx l n
  | [], n => by simp [countExs, cnt]
  | t :: r, n => by simp only [countExs, cnt, countExs_cnt r]
theorem countEx_eq (e : Ex) (n : Nat) : countEx e n = cnt countEx e.kids (cnt count e.targs (count e.type (n + e.name.size / 50))) := by
  cases e; rw [countEx, countExs_cnt]; rfl
theorem count_small (t : Ty) (h : okTy t) (n : Nat) (hn : n ≤ 2000) : count t n ≤ 3 * big := by
  have := count_le t n h
  unfold big at *
  omega
theorem countEx_le : ∀ e : Ex, okEx e → ∀ n, countEx e n ≤ n + 2 * big ∨ countEx e n ≤ 3 * big := by
  refine Ex.ind fun e ih he n => ?_
  obtain ⟨h1, h2, ⟨h3, h4⟩, h5, h6⟩ := (okEx_iff e).1 he
  have a1 := count_le e.type (n + e.name.size / 50) h2
  have a2 := cnt_le (3 * big) e.targs (count e.type (n + e.name.size / 50)) (fun a ha n hn => count_small a (h4 a ha) n hn)
  have hk : ∀ a ∈ e.kids, ∀ n, n ≤ 2000 → countEx a n ≤ 3 * big := fun a ha n hn => by
    have := ih a ha (h6 a ha) n
    unfold big at *
    omega
  have a3 := cnt_le (3 * big) e.kids (cnt count e.targs (count e.type (n + e.name.size / 50))) hk
  rw [countEx_eq]
  unfold big at *
  omega

theorem countEx_calls : ∀ e : Ex, okEx e → ∀ (n g d : Nat), n ≤ 3000000000000000000 → ACalls E 52 [encEx e, dN n] [] g d (dN (countEx e n)) [] := by
  have hbig : big = 184467440737097518 := rfl
  refine Ex.ind fun e ih he n g d hn => ?_
  obtain ⟨h1, h2, ⟨h3, h4⟩, h5, h6⟩ := (okEx_iff e).1 he
  have a1 := count_le e.type (n + e.name.size / 50) h2
  have a2 := cnt_le (3 * big) e.targs (count e.type (n + e.name.size / 50)) (fun a ha n hn => count_small a (h4 a ha) n hn)
  refine acalls_of_awp (fn := Tryd.f52) (N := 53) Tryd.call52 Tryd.func52 rfl rfl (by simp) ?_
  simp only [go_sem]
  refine awp_seq_k (fun K1 hK1 => ?_)
  refine awp_plain 2 (by kernel_rfl) rfl (fun g0 hg0 => ?_)
  simp only [go_sem]
  refine hK1 _ ?_
  refine awp_seq_k (fun K2 hK2 => ?_)
  refine awp_ops (by kernel_rfl) rfl (fun g1 hg1 ops1 KR1 hops1 hKR1 => ?_)
  refine aops_eval 8 hops1 ?_
  simp only [go_sem]
  try simp (disch := omega) only [wrapN, Int.tdiv_eq_ediv_of_nonneg]
  refine aops_pure hops1 rfl rfl rfl (count_calls _ h2 (n + e.name.size / 50) _ _ (by omega)) (CoL.refl _) ?_
  refine aops_last 1 hops1 ?_
  simp only [go_sem]
  refine hKR1 _ ?_
  refine hK2 _ ?_
  refine awp_seq_k (fun K3 hK3 => ?_)
  refine awp_seq_k (fun K4 hK4 => ?_)
  refine awp_plain 1 (by kernel_rfl) rfl (fun g2 hg2 => ?_)
  simp only [go_sem]
  refine hK4 _ ?_
  refine awp_block ?_
  refine awp_loop (fun m s => ∃ k n', k ≤ e.targs.length ∧ m = e.targs.length - k ∧ n' ≤ n + 4 * big ∧ cnt count (e.targs.drop k) n' = cnt count e.targs (count e.type (n + e.name.size / 50)) ∧
      Le { env := [(1, dN n'), (2, .ptr ⟨g0, 2, 0⟩ 0), (5, dN k)], σ := [(⟨g0, 2, 0⟩, .box 28 (exC e))] } s) e.targs.length ?_ ?_
  · refine ⟨0, count e.type (n + e.name.size / 50), Nat.zero_le _, rfl, by omega, rfl, le_of ?_⟩
    simp only [go_sem]
    trivial
  · rintro m s ⟨k, n', hk, rfl, hn', hc, hle⟩
    refine awp_keep hle ?_
    clear hle
    by_cases hlt : k < e.targs.length
    · have g1 := getM (f := encTy) hlt
      by_cases hle : n' ≤ 2000
      · have hle' : (n' : Int) ≤ 2000 := by omega
        have h7 := count_le _ n' (h4 _ (List.getElem_mem hlt))
        refine awp_seq_k (fun K5 hK5 => ?_)
        refine awp_seq_k (fun K6 hK6 => ?_)
        refine awp_plain 9 (by kernel_rfl) rfl (fun g3 hg3 => ?_)
        simp only [go_sem, hle', hlt]
        refine hK6 _ ?_
        refine awp_t rfl ?_
        refine awp_skip ?_
        refine hK5 _ ?_
        refine awp_seq_k (fun K7 hK7 => ?_)
        refine awp_block ?_
        refine awp_ops (by kernel_rfl) rfl (fun g5 hg5 ops5 KR5 hops5 hKR5 => ?_)
        refine aops_eval 6 hops5 ?_
        simp only [go_sem, g1]
        refine aops_pure hops5 rfl rfl rfl (count_calls _ (h4 _ (List.getElem_mem hlt)) n' _ _ (by omega)) (CoL.refl _) ?_
        refine aops_last 1 hops5 ?_
        simp only [go_sem]
        refine hKR5 _ ?_
        refine hK7 _ ?_
        refine awp_plain 3 (by kernel_rfl) rfl (fun g4 hg4 => ?_)
        simp only [go_sem]
        try simp (disch := omega) only [wrapN]
        rw [cnt_step hlt hle] at hc
        refine ⟨_, ?_, k + 1, count e.targs[k] n', hlt, rfl, by omega, hc, le_of ?_⟩
        · omega
        simp only [go_sem]
        omega
      · have hle' : ¬ (n' : Int) ≤ 2000 := by omega
        refine awp_seq_k (fun K8 hK8 => ?_)
        refine awp_seq_k (fun K9 hK9 => ?_)
        refine awp_plain 9 (by kernel_rfl) rfl (fun g3 hg3 => ?_)
        simp only [go_sem, hle', hlt]
        refine hK9 _ ?_
        rw [cnt_stop hle] at hc
        subst hc
        refine awp_f rfl ?_
        refine awp_exit ?_
        refine hK3 _ ?_
        refine awp_seq_k (fun K10 hK10 => ?_)
        refine awp_seq_k (fun K11 hK11 => ?_)
        refine awp_plain 1 (by kernel_rfl) rfl (fun g6 hg6 => ?_)
        simp only [go_sem]
        refine hK11 _ ?_
        refine awp_block ?_
        generalize hA : cnt count e.targs (count e.type (n + e.name.size / 50)) = A at *
        have hAb : A ≤ n + 4 * big := by omega
        refine awp_loop (fun m s => ∃ k n', k ≤ e.kids.length ∧ m = e.kids.length - k ∧ n' ≤ n + 7 * big ∧ cnt countEx (e.kids.drop k) n' = countEx e n ∧
            Le { env := [(1, dN n'), (2, .ptr ⟨g0, 2, 0⟩ 0), (6, dN k)], σ := [(⟨g0, 2, 0⟩, .box 28 (exC e))] } s) e.kids.length ?_ ?_
        · refine ⟨0, A, Nat.zero_le _, rfl, by omega, by rw [countEx_eq, hA]; rfl, le_of ?_⟩
          simp only [go_sem]
          trivial
        · rintro m s ⟨k, n', hk, rfl, hn', hc, hle⟩
          refine awp_keep hle ?_
          clear hle
          by_cases hlt : k < e.kids.length
          · have g1 := getM (f := encEx) hlt
            by_cases hle : n' ≤ 2000
            · have hle' : (n' : Int) ≤ 2000 := by omega
              have h7 := countEx_le _ (h6 _ (List.getElem_mem hlt)) n'
              refine awp_seq_k (fun K12 hK12 => ?_)
              refine awp_seq_k (fun K13 hK13 => ?_)
              refine awp_plain 9 (by kernel_rfl) rfl (fun g7 hg7 => ?_)
              simp only [go_sem, hle', hlt]
              refine hK13 _ ?_
              refine awp_t rfl ?_
              refine awp_skip ?_
              refine hK12 _ ?_
              refine awp_seq_k (fun K14 hK14 => ?_)
              refine awp_block ?_
              refine awp_ops (by kernel_rfl) rfl (fun g9 hg9 ops9 KR9 hops9 hKR9 => ?_)
              refine aops_eval 6 hops9 ?_
              simp only [go_sem, g1]
              refine aops_pure hops9 rfl rfl rfl (ih _ (List.getElem_mem hlt) (h6 _ (List.getElem_mem hlt)) n' _ _ (by omega)) (CoL.refl _) ?_
              refine aops_last 1 hops9 ?_
              simp only [go_sem]
              refine hKR9 _ ?_
              refine hK14 _ ?_
              refine awp_plain 3 (by kernel_rfl) rfl (fun g8 hg8 => ?_)
              simp only [go_sem]
              try simp (disch := omega) only [wrapN]
              rw [cnt_step hlt hle] at hc
              refine ⟨_, ?_, k + 1, countEx e.kids[k] n', hlt, rfl, by omega, hc, le_of ?_⟩
              · omega
              simp only [go_sem]
              omega
            · have hle' : ¬ (n' : Int) ≤ 2000 := by omega
              refine awp_seq_k (fun K15 hK15 => ?_)
              refine awp_seq_k (fun K16 hK16 => ?_)
              refine awp_plain 9 (by kernel_rfl) rfl (fun g7 hg7 => ?_)
              simp only [go_sem, hle', hlt]
              refine hK16 _ ?_
              rw [cnt_stop hle] at hc
              refine awp_f rfl ?_
              refine awp_exit ?_
              refine hK10 _ ?_
              refine awp_seq_k (fun K17 hK17 => ?_)
              refine awp_plain 2 (by kernel_rfl) rfl (fun g10 hg10 => ?_)
              simp only [go_sem]
              refine hK17 _ ?_
              refine awp_ret ?_
              rw [← hc]
              refine ends_ev rfl ?_
              simp only [go_sem]
              exact Co.refl _
          · refine awp_seq_k (fun K18 hK18 => ?_)
            refine awp_seq_k (fun K19 hK19 => ?_)
            refine awp_plain 9 (by kernel_rfl) rfl (fun g7 hg7 => ?_)
            simp only [go_sem, hlt]
            refine hK19 _ ?_
            rw [dropN _ _ (by omega)] at hc
            simp only [cnt] at hc
            refine awp_f rfl ?_
            refine awp_exit ?_
            refine hK10 _ ?_
            refine awp_seq_k (fun K20 hK20 => ?_)
            refine awp_plain 2 (by kernel_rfl) rfl (fun g10 hg10 => ?_)
            simp only [go_sem]
            refine hK20 _ ?_
            refine awp_ret ?_
            rw [← hc]
            refine ends_ev rfl ?_
            simp only [go_sem]
            exact Co.refl _
    · refine awp_seq_k (fun K21 hK21 => ?_)
      refine awp_seq_k (fun K22 hK22 => ?_)
      refine awp_plain 9 (by kernel_rfl) rfl (fun g3 hg3 => ?_)
      simp only [go_sem, hlt]
      refine hK22 _ ?_
      rw [dropN _ _ (by omega)] at hc
      simp only [cnt] at hc
      subst hc
      refine awp_f rfl ?_
      refine awp_exit ?_
      refine hK3 _ ?_
      refine awp_seq_k (fun K23 hK23 => ?_)
      refine awp_seq_k (fun K24 hK24 => ?_)
      refine awp_plain 1 (by kernel_rfl) rfl (fun g6 hg6 => ?_)
      simp only [go_sem]
      refine hK24 _ ?_
      refine awp_block ?_
      generalize hA : cnt count e.targs (count e.type (n + e.name.size / 50)) = A at *
      have hAb : A ≤ n + 4 * big := by omega
      refine awp_loop (fun m s => ∃ k n', k ≤ e.kids.length ∧ m = e.kids.length - k ∧ n' ≤ n + 7 * big ∧ cnt countEx (e.kids.drop k) n' = countEx e n ∧
          Le { env := [(1, dN n'), (2, .ptr ⟨g0, 2, 0⟩ 0), (6, dN k)], σ := [(⟨g0, 2, 0⟩, .box 28 (exC e))] } s) e.kids.length ?_ ?_
      · refine ⟨0, A, Nat.zero_le _, rfl, by omega, by rw [countEx_eq, hA]; rfl, le_of ?_⟩
        simp only [go_sem]
        trivial
      · rintro m s ⟨k, n', hk, rfl, hn', hc, hle⟩
        refine awp_keep hle ?_
        clear hle
        by_cases hlt : k < e.kids.length
        · have g1 := getM (f := encEx) hlt
          by_cases hle : n' ≤ 2000
          · have hle' : (n' : Int) ≤ 2000 := by omega
            have h7 := countEx_le _ (h6 _ (List.getElem_mem hlt)) n'
            refine awp_seq_k (fun K25 hK25 => ?_)
            refine awp_seq_k (fun K26 hK26 => ?_)
            refine awp_plain 9 (by kernel_rfl) rfl (fun g7 hg7 => ?_)
            simp only [go_sem, hle', hlt]
            refine hK26 _ ?_
            refine awp_t rfl ?_
            refine awp_skip ?_
            refine hK25 _ ?_
            refine awp_seq_k (fun K27 hK27 => ?_)
            refine awp_block ?_
            refine awp_ops (by kernel_rfl) rfl (fun g9 hg9 ops9 KR9 hops9 hKR9 => ?_)
            refine aops_eval 6 hops9 ?_
            simp only [go_sem, g1]
            refine aops_pure hops9 rfl rfl rfl (ih _ (List.getElem_mem hlt) (h6 _ (List.getElem_mem hlt)) n' _ _ (by omega)) (CoL.refl _) ?_
            refine aops_last 1 hops9 ?_
            simp only [go_sem]
            refine hKR9 _ ?_
            refine hK27 _ ?_
            refine awp_plain 3 (by kernel_rfl) rfl (fun g8 hg8 => ?_)
            simp only [go_sem]
            try simp (disch := omega) only [wrapN]
            rw [cnt_step hlt hle] at hc
            refine ⟨_, ?_, k + 1, countEx e.kids[k] n', hlt, rfl, by omega, hc, le_of ?_⟩
            · omega
            simp only [go_sem]
            omega
          · have hle' : ¬ (n' : Int) ≤ 2000 := by omega
            refine awp_seq_k (fun K28 hK28 => ?_)
            refine awp_seq_k (fun K29 hK29 => ?_)
            refine awp_plain 9 (by kernel_rfl) rfl (fun g7 hg7 => ?_)
            simp only [go_sem, hle', hlt]
            refine hK29 _ ?_
            rw [cnt_stop hle] at hc
            refine awp_f rfl ?_
            refine awp_exit ?_
            refine hK23 _ ?_
            refine awp_seq_k (fun K30 hK30 => ?_)
            refine awp_plain 2 (by kernel_rfl) rfl (fun g10 hg10 => ?_)
            simp only [go_sem]
            refine hK30 _ ?_
            refine awp_ret ?_
            rw [← hc]
            refine ends_ev rfl ?_
            simp only [go_sem]
            exact Co.refl _
        · refine awp_seq_k (fun K31 hK31 => ?_)
          refine awp_seq_k (fun K32 hK32 => ?_)
          refine awp_plain 9 (by kernel_rfl) rfl (fun g7 hg7 => ?_)
          simp only [go_sem, hlt]
          refine hK32 _ ?_
          rw [dropN _ _ (by omega)] at hc
          simp only [cnt] at hc
          refine awp_f rfl ?_
          refine awp_exit ?_
          refine hK23 _ ?_
          refine awp_seq_k (fun K33 hK33 => ?_)
          refine awp_plain 2 (by kernel_rfl) rfl (fun g10 hg10 => ?_)
          simp only [go_sem]
          refine hK33 _ ?_
          refine awp_ret ?_
          rw [← hc]
          refine ends_ev rfl ?_
          simp only [go_sem]
          exact Co.refl _

end Go.Proofs.T

