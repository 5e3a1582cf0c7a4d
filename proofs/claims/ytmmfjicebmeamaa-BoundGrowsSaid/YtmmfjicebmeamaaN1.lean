/- A part of the proof, under no conditions of its own: N1. -/
import Derived.Test.YtmmfjicebmeamaaF10
import Derived.Test.YtmmfjicebmeamaaXD
namespace Go.Proofs.T
open Go Go.Ab Go.RowKit

/-! ## Sums, products, powers, numbers of types -/

def most : Int := 4611686018427387903
def inR (a : Int) : Prop := 0 ≤ a ∧ a ≤ 4611686018427387903
def addS (a b : Int) : Int := if 4611686018427387903 - b < a then 4611686018427387903 else a + b
def mulS (a b : Int) : Int := if b ≠ 0 ∧ 4611686018427387903 / b < a then 4611686018427387903 else a * b
def powS (a : Int) : Nat → Int
  | 0 => 1
  | n + 1 => mulS (powS a n) a
def typS (d : Int) (a : Nat) : Nat → Int
  | 0 => 0
  | h + 1 => mulS d (powS (addS (typS d a h) 1) a)

theorem mul_le_iff {a b : Int} (_ : 0 ≤ a) (hb : 0 < b) : 4611686018427387903 / b < a ↔ 4611686018427387903 < a * b := by
  rw [Int.ediv_lt_iff_lt_mul hb]
theorem mulS_eq {a b : Int} (ha : inR a) (hb : inR b) : mulS a b = if 4611686018427387903 < a * b then 4611686018427387903 else a * b := by
  unfold mulS
  by_cases h0 : b = 0
  · subst h0
    simp
  · have hb0 : 0 < b := by unfold inR at hb; omega
    by_cases h : 4611686018427387903 / b < a
    · rw [if_pos ⟨h0, h⟩, if_pos ((mul_le_iff ha.1 hb0).1 h)]
    · rw [if_neg (fun x => h x.2), if_neg (fun x => h ((mul_le_iff ha.1 hb0).2 x))]
theorem addS_in {a b : Int} (ha : inR a) (hb : inR b) : inR (addS a b) := by
  unfold inR at *
  unfold addS
  split <;> omega
theorem mulS_in {a b : Int} (ha : inR a) (hb : inR b) : inR (mulS a b) := by
  rw [mulS_eq ha hb]
  have := Int.mul_nonneg ha.1 hb.1
  unfold inR
  split <;> omega
theorem powS_in {a : Int} (ha : inR a) : ∀ n, inR (powS a n)
  | 0 => by unfold powS inR; omega
  | n + 1 => mulS_in (powS_in ha n) ha
theorem one_in : inR 1 := by unfold inR; omega
theorem typS_in {d : Int} (hd : inR d) (a : Nat) : ∀ h, inR (typS d a h)
  | 0 => by unfold typS inR; omega
  | h + 1 => mulS_in hd (powS_in (addS_in (typS_in hd a h) one_in) a)

theorem add_calls (a b : Int) (ha : inR a) (hb : inR b) (g d : Nat) : ACalls E 6 [dI a, dI b] [] g d (dI (addS a b)) [] := by
  obtain ⟨a1, a2⟩ := ha
  obtain ⟨b1, b2⟩ := hb
  refine acalls_of_awp (fn := Try.f6) (N := 12) Try.call6 Try.func6 rfl rfl (by simp) ?_
  simp only [go_sem]
  refine awp_seq_k (fun K1 hK1 => ?_)
  refine awp_plain 1 (by kernel_rfl) rfl (fun g0 hg0 => ?_)
  simp only [go_sem]
  refine hK1 _ ?_
  refine awp_seq_k (fun K2 hK2 => ?_)
  refine awp_seq_k (fun K3 hK3 => ?_)
  by_cases h : 4611686018427387903 - b < a
  · refine awp_plain 4 (by kernel_rfl) rfl (fun g1 hg1 => ?_)
    simp only [go_sem]
    try simp (disch := omega) only [wrapN]
    try simp only [go_sem, h, decide_true]
    try simp (disch := omega) only [wrapN, wrapB, Int.tdiv_eq_ediv_of_nonneg, Int.tmod_eq_emod_of_nonneg]
    refine hK3 _ ?_
    refine awp_t rfl ?_
    refine awp_seq_k (fun K4 hK4 => ?_)
    refine awp_plain 1 (by kernel_rfl) rfl (fun g2 hg2 => ?_)
    simp only [go_sem]
    refine hK4 _ ?_
    refine awp_ret ?_
    refine ends_ev rfl ?_
    simp only [go_sem]
    exact Co.of_eq (by simp [addS, h])
  · refine awp_plain 4 (by kernel_rfl) rfl (fun g1 hg1 => ?_)
    simp only [go_sem]
    try simp (disch := omega) only [wrapN]
    try simp only [go_sem, h, decide_false]
    try simp (disch := omega) only [wrapN, wrapB, Int.tdiv_eq_ediv_of_nonneg, Int.tmod_eq_emod_of_nonneg]
    refine hK3 _ ?_
    refine awp_f rfl ?_
    refine awp_skip ?_
    refine hK2 _ ?_
    refine awp_seq_k (fun K5 hK5 => ?_)
    refine awp_plain 4 (by kernel_rfl) rfl (fun g3 hg3 => ?_)
    simp only [go_sem]
    try simp (disch := omega) only [wrapN]
    refine hK5 _ ?_
    refine awp_ret ?_
    refine ends_ev rfl ?_
    simp only [go_sem]
    exact Co.of_eq (by simp [addS, h])
theorem mul_calls (a b : Int) (ha : inR a) (hb : inR b) (g d : Nat) : ACalls E 8 [dI a, dI b] [] g d (dI (mulS a b)) [] := by
  have hm := mulS_eq ha hb
  have hn := Int.mul_nonneg ha.1 hb.1
  have ha' := ha
  have hb' := hb
  obtain ⟨a1, a2⟩ := ha
  obtain ⟨b1, b2⟩ := hb
  refine acalls_of_awp (fn := Try.f8) (N := 16) Try.call8 Try.func8 rfl rfl (by simp) ?_
  simp only [go_sem]
  refine awp_seq_k (fun K1 hK1 => ?_)
  refine awp_plain 1 (by kernel_rfl) rfl (fun g0 hg0 => ?_)
  simp only [go_sem]
  refine hK1 _ ?_
  refine awp_seq_k (fun K2 hK2 => ?_)
  refine awp_seq_k (fun K3 hK3 => ?_)
  by_cases h0 : b = 0
  · subst h0
    refine awp_plain 8 (by kernel_rfl) rfl (fun g1 hg1 => ?_)
    simp only [go_sem, decide_true, Bool.not_true]
    try simp (disch := omega) only [wrapN, wrapB, Int.tdiv_eq_ediv_of_nonneg, Int.tmod_eq_emod_of_nonneg]
    refine hK3 _ ?_
    refine awp_f rfl ?_
    refine awp_skip ?_
    refine hK2 _ ?_
    refine awp_seq_k (fun K4 hK4 => ?_)
    refine awp_plain 4 (by kernel_rfl) rfl (fun g3 hg3 => ?_)
    simp only [go_sem, Int.mul_zero]
    try simp (disch := omega) only [wrapN]
    refine hK4 _ ?_
    refine awp_ret ?_
    refine ends_ev rfl ?_
    simp only [go_sem]
    exact Co.of_eq (by simp [mulS])
  · have hb0 : 0 < b := by omega
    have hq1 : 0 ≤ 4611686018427387903 / b := Int.ediv_nonneg (by omega) b1
    have hq2 : 4611686018427387903 / b ≤ 4611686018427387903 := Int.ediv_le_self _ (by omega)
    have hw : IntKind.i64.wrap (Int.tdiv 4611686018427387903 b) = 4611686018427387903 / b := by
      rw [Int.tdiv_eq_ediv_of_nonneg (by omega)]
      exact wrapN _ (by omega) (by omega)
    by_cases h : 4611686018427387903 / b < a
    · refine awp_plain 8 (by kernel_rfl) rfl (fun g1 hg1 => ?_)
      simp only [go_sem, h0, hw, h, if_false, decide_true, decide_false, Bool.not_false]
      try simp (disch := omega) only [wrapN, wrapB, Int.tdiv_eq_ediv_of_nonneg, Int.tmod_eq_emod_of_nonneg]
      refine hK3 _ ?_
      refine awp_t rfl ?_
      refine awp_seq_k (fun K5 hK5 => ?_)
      refine awp_plain 1 (by kernel_rfl) rfl (fun g2 hg2 => ?_)
      simp only [go_sem]
      refine hK5 _ ?_
      refine awp_ret ?_
      refine ends_ev rfl ?_
      simp only [go_sem]
      exact Co.of_eq (by simp [mulS, h, h0])
    · have hle : ¬ 4611686018427387903 < a * b := fun x => h ((mul_le_iff a1 hb0).2 x)
      have hw2 : IntKind.i64.wrap (a * b) = a * b := wrapN _ (by omega) (by omega)
      refine awp_plain 8 (by kernel_rfl) rfl (fun g1 hg1 => ?_)
      simp only [go_sem, h0, hw, h, if_false, decide_false, Bool.not_false]
      try simp (disch := omega) only [wrapN, wrapB, Int.tdiv_eq_ediv_of_nonneg, Int.tmod_eq_emod_of_nonneg]
      refine hK3 _ ?_
      refine awp_f rfl ?_
      refine awp_skip ?_
      refine hK2 _ ?_
      refine awp_seq_k (fun K6 hK6 => ?_)
      refine awp_plain 4 (by kernel_rfl) rfl (fun g3 hg3 => ?_)
      simp only [go_sem, hw2]
      try simp (disch := omega) only [wrapN, wrapB, Int.tdiv_eq_ediv_of_nonneg, Int.tmod_eq_emod_of_nonneg]
      refine hK6 _ ?_
      refine awp_ret ?_
      refine ends_ev rfl ?_
      simp only [go_sem]
      exact Co.of_eq (by simp [mulS, h])
theorem wrapU (x : Int) (h1 : 0 ≤ x) (h2 : x < 18446744073709551616) : IntKind.u64.wrap x = x := by
  simp only [IntKind.wrap, IntKind.bits, IntKind.signed, Bool.false_and, Bool.false_eq_true, if_false]
  have e : (2 : Int) ^ 64 = 18446744073709551616 := by decide
  rw [e]
  exact Int.emod_eq_of_lt h1 h2
theorem refAdd_calls (a b : Int) (ha : inR a) (hb : inR b) (g d : Nat) : ACalls E 7 [dI a, dI b] [] g d (dI (addS a b)) [] := by
  obtain ⟨a1, a2⟩ := ha
  obtain ⟨b1, b2⟩ := hb
  have w1 : IntKind.u64.wrap a = a := wrapU _ (by omega) (by omega)
  have w2 : IntKind.u64.wrap b = b := wrapU _ (by omega) (by omega)
  have w3 : IntKind.u64.wrap (a + b) = a + b := wrapU _ (by omega) (by omega)
  have e : (if 4611686018427387903 < a + b then 4611686018427387903 else a + b) = addS a b := by
    unfold addS
    by_cases h : 4611686018427387903 - b < a
    · rw [if_pos (by omega), if_pos h]
    · rw [if_neg (by omega), if_neg h]
  have hin := addS_in (a := a) (b := b) ⟨a1, a2⟩ ⟨b1, b2⟩
  have w4 : IntKind.i64.wrap (addS a b) = addS a b := wrapN _ (by unfold inR at hin; omega) (by unfold inR at hin; omega)
  refine acalls_of_awp (fn := Try.f7) (N := 12) Try.call7 Try.func7 rfl rfl (by simp) ?_
  simp only [go_sem]
  refine awp_seq_k (fun K1 hK1 => ?_)
  refine awp_plain 1 (by kernel_rfl) rfl (fun g0 hg0 => ?_)
  simp only [go_sem]
  refine hK1 _ ?_
  refine awp_seq_k (fun K2 hK2 => ?_)
  refine awp_plain 8 (by kernel_rfl) rfl (fun g1 hg1 => ?_)
  simp only [go_sem, w1, w2, w3, e, w4, if_false, Bool.false_eq_true]
  try simp (disch := omega) only [wrapN, wrapB, Int.tdiv_eq_ediv_of_nonneg, Int.tmod_eq_emod_of_nonneg]
  refine hK2 _ ?_
  refine awp_ret ?_
  refine ends_ev rfl ?_
  simp only [go_sem]
  exact Co.refl _
theorem refMul_calls (a b : Int) (ha : inR a) (hb : inR b) (g d : Nat) : ACalls E 9 [dI a, dI b] [] g d (dI (mulS a b)) [] := by
  have hm := mulS_eq ha hb
  have hn := Int.mul_nonneg ha.1 hb.1
  obtain ⟨a1, a2⟩ := ha
  obtain ⟨b1, b2⟩ := hb
  refine acalls_of_awp (fn := Try.f9) (N := 18) Try.call9 Try.func9 rfl rfl (by simp) ?_
  simp only [go_sem]
  refine awp_seq_k (fun K1 hK1 => ?_)
  refine awp_plain 1 (by kernel_rfl) rfl (fun g0 hg0 => ?_)
  simp only [go_sem]
  refine hK1 _ ?_
  refine awp_seq_k (fun K2 hK2 => ?_)
  refine awp_seq_k (fun K3 hK3 => ?_)
  by_cases h0 : a = 0
  · subst h0
    refine awp_plain 6 (by kernel_rfl) rfl (fun g1 hg1 => ?_)
    simp only [go_sem, decide_true]
    refine hK3 _ ?_
    refine awp_t rfl ?_
    refine awp_seq_k (fun K4 hK4 => ?_)
    refine awp_plain 1 (by kernel_rfl) rfl (fun g2 hg2 => ?_)
    simp only [go_sem]
    refine hK4 _ ?_
    refine awp_ret ?_
    refine ends_ev rfl ?_
    simp only [go_sem]
    exact Co.of_eq (by rw [hm]; simp)
  · by_cases k0 : b = 0
    · subst k0
      refine awp_plain 6 (by kernel_rfl) rfl (fun g1 hg1 => ?_)
      simp only [go_sem, h0, decide_true, decide_false]
      refine hK3 _ ?_
      refine awp_t rfl ?_
      refine awp_seq_k (fun K5 hK5 => ?_)
      refine awp_plain 1 (by kernel_rfl) rfl (fun g2 hg2 => ?_)
      simp only [go_sem]
      refine hK5 _ ?_
      refine awp_ret ?_
      refine ends_ev rfl ?_
      simp only [go_sem]
      exact Co.of_eq (by rw [hm]; simp)
    · have ha0 : 0 < a := by omega
      have hq1 : 0 ≤ 4611686018427387903 / a := Int.ediv_nonneg (by omega) a1
      have hq2 : 4611686018427387903 / a ≤ 4611686018427387903 := Int.ediv_le_self _ (by omega)
      have hw : IntKind.i64.wrap (Int.tdiv 4611686018427387903 a) = 4611686018427387903 / a := by
        rw [Int.tdiv_eq_ediv_of_nonneg (by omega)]
        exact wrapN _ (by omega) (by omega)
      by_cases h : 4611686018427387903 / a < b
      · have hgt : 4611686018427387903 < a * b := by rw [Int.mul_comm]; exact (mul_le_iff b1 ha0).1 h
        refine awp_plain 6 (by kernel_rfl) rfl (fun g1 hg1 => ?_)
        simp only [go_sem, h0, k0, decide_false]
        refine hK3 _ ?_
        refine awp_f rfl ?_
        refine awp_skip ?_
        refine hK2 _ ?_
        refine awp_seq_k (fun K6 hK6 => ?_)
        refine awp_seq_k (fun K7 hK7 => ?_)
        refine awp_plain 4 (by kernel_rfl) rfl (fun g3 hg3 => ?_)
        simp only [go_sem, h0, hw, h, if_false, decide_true]
        try simp (disch := omega) only [wrapN, wrapB, Int.tdiv_eq_ediv_of_nonneg, Int.tmod_eq_emod_of_nonneg]
        refine hK7 _ ?_
        refine awp_t rfl ?_
        refine awp_seq_k (fun K8 hK8 => ?_)
        refine awp_plain 1 (by kernel_rfl) rfl (fun g4 hg4 => ?_)
        simp only [go_sem]
        refine hK8 _ ?_
        refine awp_ret ?_
        refine ends_ev rfl ?_
        simp only [go_sem]
        exact Co.of_eq (by rw [hm, if_pos hgt])
      · have hle : ¬ 4611686018427387903 < a * b := fun x => h ((mul_le_iff b1 ha0).2 (by rw [Int.mul_comm]; exact x))
        have hw2 : IntKind.i64.wrap (a * b) = a * b := wrapN _ (by omega) (by omega)
        refine awp_plain 6 (by kernel_rfl) rfl (fun g1 hg1 => ?_)
        simp only [go_sem, h0, k0, decide_false]
        refine hK3 _ ?_
        refine awp_f rfl ?_
        refine awp_skip ?_
        refine hK2 _ ?_
        refine awp_seq_k (fun K9 hK9 => ?_)
        refine awp_seq_k (fun K10 hK10 => ?_)
        refine awp_plain 4 (by kernel_rfl) rfl (fun g3 hg3 => ?_)
        simp only [go_sem, h0, hw, h, if_false, decide_false]
        try simp (disch := omega) only [wrapN, wrapB, Int.tdiv_eq_ediv_of_nonneg, Int.tmod_eq_emod_of_nonneg]
        refine hK10 _ ?_
        refine awp_f rfl ?_
        refine awp_skip ?_
        refine hK9 _ ?_
        refine awp_seq_k (fun K11 hK11 => ?_)
        refine awp_plain 4 (by kernel_rfl) rfl (fun g5 hg5 => ?_)
        simp only [go_sem, hw2]
        try simp (disch := omega) only [wrapN, wrapB, Int.tdiv_eq_ediv_of_nonneg, Int.tmod_eq_emod_of_nonneg]
        refine hK11 _ ?_
        refine awp_ret ?_
        refine ends_ev rfl ?_
        simp only [go_sem]
        exact Co.of_eq (by rw [hm, if_neg hle])
end Go.Proofs.T

