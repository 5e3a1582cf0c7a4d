/- A part of the proof, under no conditions of its own: ZAP. -/
import Derived.Test.YtmmfjicebmeamaaGreatZAG
import Derived.Test.YtmmfjicebmeamaaGreatZAF
import Derived.Test.YtmmfjicebmeamaaGreatZAL
import Derived.Test.YtmmfjicebmeamaaGreatZAK
import Derived.Test.YtmmfjicebmeamaaGreatZAO
namespace Go.Proofs.T
open Go Go.Ab Go.RowKit

/-! ## Sums, products, powers, numbers of types -/

def most : Int := 4611686018427387903
def inR (a : Int) : Prop := 0 ≤ a ∧ a ≤ 4611686018427387903
def addS (a b : Int) : Int := if 4611686018427387903 - b < a then 4611686018427387903 else a + b
def mulS (a b : Int) : Int := if b ≠ 0 ∧ 4611686018427387903 / b < a then 4611686018427387903 else a * b
def powS (a : Int) : Nat → Int
  | 0 => 1
  | n + 1 => mulS (powS a n) a
def typS (d : Int) (a : Nat) : Nat → Int
  | 0 => 0
  | h + 1 => mulS d (powS (addS (typS d a h) 1) a)

theorem mul_le_iff {a b : Int} (_ : 0 ≤ a) (hb : 0 < b) : 4611686018427387903 / b < a ↔ 4611686018427387903 < a * b := by
  rw [Int.ediv_lt_iff_lt_mul hb]
theorem mulS_eq {a b : Int} (ha : inR a) (hb : inR b) : mulS a b = if 4611686018427387903 < a * b then 4611686018427387903 else a * b := by
  unfold mulS
  by_cases h0 : b = 0
  · subst h0
    simp
  · have hb0 : 0 < b := by unfold inR at hb; omega
    by_cases h : 4611686018427387903 / b < a
    · rw [if_pos ⟨h0, h⟩, if_pos ((mul_le_iff ha.1 hb0).1 h)]
    · rw [if_neg (fun x => h x.2), if_neg (fun x => h ((mul_le_iff ha.1 hb0).2 x))]
theorem addS_in {a b : Int} (ha : inR a) (hb : inR b) : inR (addS a b) := by
  unfold inR at *
  unfold addS
  split <;> omega
theorem mulS_in {a b : Int} (ha : inR a) (hb : inR b) : inR (mulS a b) := by
  rw [mulS_eq ha hb]
  have := Int.mul_nonneg ha.1 hb.1
  unfold inR
  split <;> omega
theorem powS_in {a : Int} (ha : inR a) : ∀ n, inR (powS a n)
  | 0 => by unfold powS inR; omega
  | n + 1 => mulS_in (powS_in ha n) ha
theorem one_in : inR 1 := by unfold inR; omega
theorem typS_in {d : Int} (hd : inR d) (a : Nat) : ∀ h, inR (typS d a h)
  | 0 => by unfold typS inR; omega
  | h + 1 => mulS_in hd (powS_in (addS_in (typS_in hd a h) one_in) a)

theorem add_calls (a b : Int) (ha : inR a) (hb : inR b) (g d : Nat) : ACalls E 17 [dI a, dI b] [] g d (dI (addS a b)) [] := by
  obtain ⟨a1, a2⟩ := ha
  obtain ⟨b1, b2⟩ := hb
  refine acalls_of_awp (fn := Tryz.f17) (N := 12) Tryz.call17 Tryz.func17 rfl rfl (by simp) ?_
  simp only [go_sem]
  refine awp_seq_k (fun K1 hK1 => ?_)
  refine awp_plain 1 (by kernel_rfl) rfl (fun g0 hg0 => ?_)
  simp only [go_sem]
  refine hK1 _ ?_
  refine awp_seq_k (fun K2 hK2 => ?_)
  refine awp_seq_k (fun K3 hK3 => ?_)
  by_cases h : 4611686018427387903 - b < a
  · refine awp_plain 4 (by kernel_rfl) rfl (fun g1 hg1 => ?_)
    simp only [go_sem]
    try simp (disch := omega) only [wrapN]
    try simp only [go_sem, h, decide_true]
    try simp (disch := omega) only [wrapN, wrapB, Int.tdiv_eq_ediv_of_nonneg, Int.tmod_eq_emod_of_nonneg]
    refine hK3 _ ?_
    refine awp_t rfl ?_
    refine awp_seq_k (fun K4 hK4 => ?_)
    refine awp_plain 1 (by kernel_rfl) rfl (fun g2 hg2 => ?_)
    simp only [go_sem]
    refine hK4 _ ?_
    refine awp_ret ?_
    refine ends_ev rfl ?_
    simp only [go_sem]
    exact Co.of_eq (by simp [addS, h])
  · refine awp_plain 4 (by kernel_rfl) rfl (fun g1 hg1 => ?_)
    simp only [go_sem]
    try simp (disch := omega) only [wrapN]
    try simp only [go_sem, h, decide_false]
    try simp (disch := omega) only [wrapN, wrapB, Int.tdiv_eq_ediv_of_nonneg, Int.tmod_eq_emod_of_nonneg]
    refine hK3 _ ?_
    refine awp_f rfl ?_
    refine awp_skip ?_
    refine hK2 _ ?_
    refine awp_seq_k (fun K5 hK5 => ?_)
    refine awp_plain 4 (by kernel_rfl) rfl (fun g3 hg3 => ?_)
    simp only [go_sem]
    try simp (disch := omega) only [wrapN]
    refine hK5 _ ?_
    refine awp_ret ?_
    refine ends_ev rfl ?_
    simp only [go_sem]
    exact Co.of_eq (by simp [addS, h])
theorem mul_calls (a b : Int) (ha : inR a) (hb : inR b) (g d : Nat) : ACalls E 18 [dI a, dI b] [] g d (dI (mulS a b)) [] := by
  have hm := mulS_eq ha hb
  have hn := Int.mul_nonneg ha.1 hb.1
  have ha' := ha
  have hb' := hb
  obtain ⟨a1, a2⟩ := ha
  obtain ⟨b1, b2⟩ := hb
  refine acalls_of_awp (fn := Tryz.f18) (N := 16) Tryz.call18 Tryz.func18 rfl rfl (by simp) ?_
  simp only [go_sem]
  refine awp_seq_k (fun K1 hK1 => ?_)
  refine awp_plain 1 (by kernel_rfl) rfl (fun g0 hg0 => ?_)
  simp only [go_sem]
  refine hK1 _ ?_
  refine awp_seq_k (fun K2 hK2 => ?_)
  refine awp_seq_k (fun K3 hK3 => ?_)
  by_cases h0 : b = 0
  · subst h0
    refine awp_plain 8 (by kernel_rfl) rfl (fun g1 hg1 => ?_)
    simp only [go_sem, decide_true, Bool.not_true]
    try simp (disch := omega) only [wrapN, wrapB, Int.tdiv_eq_ediv_of_nonneg, Int.tmod_eq_emod_of_nonneg]
    refine hK3 _ ?_
    refine awp_f rfl ?_
    refine awp_skip ?_
    refine hK2 _ ?_
    refine awp_seq_k (fun K4 hK4 => ?_)
    refine awp_plain 4 (by kernel_rfl) rfl (fun g3 hg3 => ?_)
    simp only [go_sem, Int.mul_zero]
    try simp (disch := omega) only [wrapN]
    refine hK4 _ ?_
    refine awp_ret ?_
    refine ends_ev rfl ?_
    simp only [go_sem]
    exact Co.of_eq (by simp [mulS])
  · have hb0 : 0 < b := by omega
    have hq1 : 0 ≤ 4611686018427387903 / b := Int.ediv_nonneg (by omega) b1
    have hq2 : 4611686018427387903 / b ≤ 4611686018427387903 := Int.ediv_le_self _ (by omega)
    have hw : IntKind.i64.wrap (Int.tdiv 4611686018427387903 b) = 4611686018427387903 / b := by
      rw [Int.tdiv_eq_ediv_of_nonneg (by omega)]
      exact wrapN _ (by omega) (by omega)
    by_cases h : 4611686018427387903 / b < a
    · refine awp_plain 8 (by kernel_rfl) rfl (fun g1 hg1 => ?_)
      simp only [go_sem, h0, hw, h, if_false, decide_true, decide_false, Bool.not_false]
      try simp (disch := omega) only [wrapN, wrapB, Int.tdiv_eq_ediv_of_nonneg, Int.tmod_eq_emod_of_nonneg]
      refine hK3 _ ?_
      refine awp_t rfl ?_
      refine awp_seq_k (fun K5 hK5 => ?_)
      refine awp_plain 1 (by kernel_rfl) rfl (fun g2 hg2 => ?_)
      simp only [go_sem]
      refine hK5 _ ?_
      refine awp_ret ?_
      refine ends_ev rfl ?_
      simp only [go_sem]
      exact Co.of_eq (by simp [mulS, h, h0])
    · have hle : ¬ 4611686018427387903 < a * b := fun x => h ((mul_le_iff a1 hb0).2 x)
      have hw2 : IntKind.i64.wrap (a * b) = a * b := wrapN _ (by omega) (by omega)
      refine awp_plain 8 (by kernel_rfl) rfl (fun g1 hg1 => ?_)
      simp only [go_sem, h0, hw, h, if_false, decide_false, Bool.not_false]
      try simp (disch := omega) only [wrapN, wrapB, Int.tdiv_eq_ediv_of_nonneg, Int.tmod_eq_emod_of_nonneg]
      refine hK3 _ ?_
      refine awp_f rfl ?_
      refine awp_skip ?_
      refine hK2 _ ?_
      refine awp_seq_k (fun K6 hK6 => ?_)
      refine awp_plain 4 (by kernel_rfl) rfl (fun g3 hg3 => ?_)
      simp only [go_sem, hw2]
      try simp (disch := omega) only [wrapN, wrapB, Int.tdiv_eq_ediv_of_nonneg, Int.tmod_eq_emod_of_nonneg]
      refine hK6 _ ?_
      refine awp_ret ?_
      refine ends_ev rfl ?_
      simp only [go_sem]
      exact Co.of_eq (by simp [mulS, h])
theorem wrapU (x : Int) (h1 : 0 ≤ x) (h2 : x < 18446744073709551616) : IntKind.u64.wrap x = x := by
  simp only [IntKind.wrap, IntKind.bits, IntKind.signed, Bool.false_and, Bool.false_eq_true, if_false]
  have e : (2 : Int) ^ 64 = 18446744073709551616 := by decide
  rw [e]
  exact Int.emod_eq_of_lt h1 h2
theorem refAdd_calls (a b : Int) (ha : inR a) (hb : inR b) (g d : Nat) : ACalls E 30 [dI a, dI b] [] g d (dI (addS a b)) [] := by
  obtain ⟨a1, a2⟩ := ha
  obtain ⟨b1, b2⟩ := hb
  have w1 : IntKind.u64.wrap a = a := wrapU _ (by omega) (by omega)
  have w2 : IntKind.u64.wrap b = b := wrapU _ (by omega) (by omega)
  have w3 : IntKind.u64.wrap (a + b) = a + b := wrapU _ (by omega) (by omega)
  have e : (if 4611686018427387903 < a + b then 4611686018427387903 else a + b) = addS a b := by
    unfold addS
    by_cases h : 4611686018427387903 - b < a
    · rw [if_pos (by omega), if_pos h]
    · rw [if_neg (by omega), if_neg h]
  have hin := addS_in (a := a) (b := b) ⟨a1, a2⟩ ⟨b1, b2⟩
  have w4 : IntKind.i64.wrap (addS a b) = addS a b := wrapN _ (by unfold inR at hin; omega) (by unfold inR at hin; omega)
  refine acalls_of_awp (fn := Tryz.f30) (N := 12) Tryz.call30 Tryz.func30 rfl rfl (by simp) ?_
  simp only [go_sem]
  refine awp_seq_k (fun K1 hK1 => ?_)
  refine awp_plain 1 (by kernel_rfl) rfl (fun g0 hg0 => ?_)
  simp only [go_sem]
  refine hK1 _ ?_
  refine awp_seq_k (fun K2 hK2 => ?_)
  refine awp_plain 8 (by kernel_rfl) rfl (fun g1 hg1 => ?_)
  simp only [go_sem, w1, w2, w3, e, w4, if_false, Bool.false_eq_true]
  try simp (disch := omega) only [wrapN, wrapB, Int.tdiv_eq_ediv_of_nonneg, Int.tmod_eq_emod_of_nonneg]
  refine hK2 _ ?_
  refine awp_ret ?_
  refine ends_ev rfl ?_
  simp only [go_sem]
  exact Co.refl _
theorem refMul_calls (a b : Int) (ha : inR a) (hb : inR b) (g d : Nat) : ACalls E 31 [dI a, dI b] [] g d (dI (mulS a b)) [] := by
  have hm := mulS_eq ha hb
  have hn := Int.mul_nonneg ha.1 hb.1
  obtain ⟨a1, a2⟩ := ha
  obtain ⟨b1, b2⟩ := hb
  refine acalls_of_awp (fn := Tryz.f31) (N := 18) Tryz.call31 Tryz.func31 rfl rfl (by simp) ?_
  simp only [go_sem]
  refine awp_seq_k (fun K1 hK1 => ?_)
  refine awp_plain 1 (by kernel_rfl) rfl (fun g0 hg0 => ?_)
  simp only [go_sem]
  refine hK1 _ ?_
  refine awp_seq_k (fun K2 hK2 => ?_)
  refine awp_seq_k (fun K3 hK3 => ?_)
  by_cases h0 : a = 0
  · subst h0
    refine awp_plain 6 (by kernel_rfl) rfl (fun g1 hg1 => ?_)
    simp only [go_sem, decide_true]
    refine hK3 _ ?_
    refine awp_t rfl ?_
    refine awp_seq_k (fun K4 hK4 => ?_)
    refine awp_plain 1 (by kernel_rfl) rfl (fun g2 hg2 => ?_)
    simp only [go_sem]
    refine hK4 _ ?_
    refine awp_ret ?_
    refine ends_ev rfl ?_
    simp only [go_sem]
    exact Co.of_eq (by rw [hm]; simp)
  · by_cases k0 : b = 0
    · subst k0
      refine awp_plain 6 (by kernel_rfl) rfl (fun g1 hg1 => ?_)
      simp only [go_sem, h0, decide_true, decide_false]
      refine hK3 _ ?_
      refine awp_t rfl ?_
      refine awp_seq_k (fun K5 hK5 => ?_)
      refine awp_plain 1 (by kernel_rfl) rfl (fun g2 hg2 => ?_)
      simp only [go_sem]
      refine hK5 _ ?_
      refine awp_ret ?_
      refine ends_ev rfl ?_
      simp only [go_sem]
      exact Co.of_eq (by rw [hm]; simp)
    · have ha0 : 0 < a := by omega
      have hq1 : 0 ≤ 4611686018427387903 / a := Int.ediv_nonneg (by omega) a1
      have hq2 : 4611686018427387903 / a ≤ 4611686018427387903 := Int.ediv_le_self _ (by omega)
      have hw : IntKind.i64.wrap (Int.tdiv 4611686018427387903 a) = 4611686018427387903 / a := by
        rw [Int.tdiv_eq_ediv_of_nonneg (by omega)]
        exact wrapN _ (by omega) (by omega)
      by_cases h : 4611686018427387903 / a < b
      · have hgt : 4611686018427387903 < a * b := by rw [Int.mul_comm]; exact (mul_le_iff b1 ha0).1 h
        refine awp_plain 6 (by kernel_rfl) rfl (fun g1 hg1 => ?_)
        simp only [go_sem, h0, k0, decide_false]
        refine hK3 _ ?_
        refine awp_f rfl ?_
        refine awp_skip ?_
        refine hK2 _ ?_
        refine awp_seq_k (fun K6 hK6 => ?_)
        refine awp_seq_k (fun K7 hK7 => ?_)
        refine awp_plain 4 (by kernel_rfl) rfl (fun g3 hg3 => ?_)
        simp only [go_sem, h0, hw, h, if_false, decide_true]
        try simp (disch := omega) only [wrapN, wrapB, Int.tdiv_eq_ediv_of_nonneg, Int.tmod_eq_emod_of_nonneg]
        refine hK7 _ ?_
        refine awp_t rfl ?_
        refine awp_seq_k (fun K8 hK8 => ?_)
        refine awp_plain 1 (by kernel_rfl) rfl (fun g4 hg4 => ?_)
        simp only [go_sem]
        refine hK8 _ ?_
        refine awp_ret ?_
        refine ends_ev rfl ?_
        simp only [go_sem]
        exact Co.of_eq (by rw [hm, if_pos hgt])
      · have hle : ¬ 4611686018427387903 < a * b := fun x => h ((mul_le_iff b1 ha0).2 (by rw [Int.mul_comm]; exact x))
        have hw2 : IntKind.i64.wrap (a * b) = a * b := wrapN _ (by omega) (by omega)
        refine awp_plain 6 (by kernel_rfl) rfl (fun g1 hg1 => ?_)
        simp only [go_sem, h0, k0, decide_false]
        refine hK3 _ ?_
        refine awp_f rfl ?_
        refine awp_skip ?_
        refine hK2 _ ?_
        refine awp_seq_k (fun K9 hK9 => ?_)
        refine awp_seq_k (fun K10 hK10 => ?_)
        refine awp_plain 4 (by kernel_rfl) rfl (fun g3 hg3 => ?_)
        simp only [go_sem, h0, hw, h, if_false, decide_false]
        try simp (disch := omega) only [wrapN, wrapB, Int.tdiv_eq_ediv_of_nonneg, Int.tmod_eq_emod_of_nonneg]
        refine hK10 _ ?_
        refine awp_f rfl ?_
        refine awp_skip ?_
        refine hK9 _ ?_
        refine awp_seq_k (fun K11 hK11 => ?_)
        refine awp_plain 4 (by kernel_rfl) rfl (fun g5 hg5 => ?_)
        simp only [go_sem, hw2]
        try simp (disch := omega) only [wrapN, wrapB, Int.tdiv_eq_ediv_of_nonneg, Int.tmod_eq_emod_of_nonneg]
        refine hK11 _ ?_
        refine awp_ret ?_
        refine ends_ev rfl ?_
        simp only [go_sem]
        exact Co.of_eq (by rw [hm, if_neg hle])
end Go.Proofs.T


namespace Go.Proofs.T
open Go Go.Ab Go.RowKit

theorem pow_calls (a : Int) (n : Nat) (ha : inR a) (hn : n ≤ 1000000) (g d : Nat) : ACalls E 19 [dI a, dN n] [] g d (dI (powS a n)) [] := by
  refine acalls_of_awp (fn := Tryz.f19) (N := 14) Tryz.call19 Tryz.func19 rfl rfl (by simp) ?_
  simp only [go_sem]
  refine awp_seq_k (fun K1 hK1 => ?_)
  refine awp_plain 1 (by kernel_rfl) rfl (fun g0 hg0 => ?_)
  simp only [go_sem]
  refine hK1 _ ?_
  refine awp_seq_k (fun K2 hK2 => ?_)
  refine awp_plain 1 (by kernel_rfl) rfl (fun g1 hg1 => ?_)
  simp only [go_sem]
  refine hK2 _ ?_
  refine awp_seq_k (fun K3 hK3 => ?_)
  refine awp_seq_k (fun K4 hK4 => ?_)
  refine awp_plain 2 (by kernel_rfl) rfl (fun g2 hg2 => ?_)
  simp only [go_sem]
  refine hK4 _ ?_
  refine awp_block ?_
  refine awp_loop (fun m s => ∃ k, k ≤ n ∧ m = n - k ∧ Le { env := [(0, dI a), (6, dN n), (7, dN k), (5, dI (powS a k))], σ := [] } s) n ?_ ?_
  · refine ⟨0, Nat.zero_le _, rfl, le_of ?_⟩
    simp only [go_sem]
    exact ⟨rfl, rfl⟩
  · rintro m s ⟨k, hk, rfl, hle⟩
    refine awp_keep hle ?_
    clear hle
    refine awp_seq_k (fun K5 hK5 => ?_)
    by_cases hlt : k < n
    · refine awp_plain 1 (by kernel_rfl) rfl (fun g3 hg3 => ?_)
      simp only [go_sem, hlt]
      refine hK5 _ ?_
      refine awp_seq_k (fun K6 hK6 => ?_)
      refine awp_t rfl ?_
      refine awp_skip ?_
      refine hK6 _ ?_
      refine awp_seq_k (fun K7 hK7 => ?_)
      refine awp_block ?_
      refine awp_ops (by kernel_rfl) rfl (fun g4 hg4 ops4 KR4 hops4 hKR4 => ?_)
      refine aops_eval 2 hops4 ?_
      simp only [go_sem]
      refine aops_pure hops4 rfl rfl rfl (mul_calls _ _ (powS_in ha k) ha _ _) (CoL.refl _) ?_
      refine aops_last 1 hops4 ?_
      simp only [go_sem]
      refine hKR4 _ ?_
      refine hK7 _ ?_
      refine awp_plain 2 (by kernel_rfl) rfl (fun g5 hg5 => ?_)
      simp only [go_sem]
      try simp (disch := omega) only [wrapN]
      refine ⟨_, ?_, k + 1, hlt, rfl, le_of ?_⟩
      · omega
      simp only [go_sem]
      exact ⟨rfl, rfl⟩
    · have : k = n := by omega
      subst this
      refine awp_plain 1 (by kernel_rfl) rfl (fun g3 hg3 => ?_)
      simp only [go_sem, hlt]
      refine hK5 _ ?_
      refine awp_seq_k (fun K8 hK8 => ?_)
      refine awp_f rfl ?_
      refine awp_exit ?_
      refine hK3 _ ?_
      refine awp_seq_k (fun K9 hK9 => ?_)
      refine awp_plain 2 (by kernel_rfl) rfl (fun g6 hg6 => ?_)
      simp only [go_sem]
      refine hK9 _ ?_
      refine awp_ret ?_
      refine ends_ev rfl ?_
      simp only [go_sem]
      exact Co.refl _
theorem types_calls (x : Int) (a h : Nat) (hx : inR x) (ha : a ≤ 1000000) (hh : h ≤ 1000000) (g d : Nat) : ACalls E 16 [dI x, dN a, dN h] [] g d (dI (typS x a h)) [] := by
  refine acalls_of_awp (fn := Tryz.f16) (N := 19) Tryz.call16 Tryz.func16 rfl rfl (by simp) ?_
  simp only [go_sem]
  refine awp_seq_k (fun K1 hK1 => ?_)
  refine awp_plain 1 (by kernel_rfl) rfl (fun g0 hg0 => ?_)
  simp only [go_sem]
  refine hK1 _ ?_
  refine awp_seq_k (fun K2 hK2 => ?_)
  refine awp_plain 1 (by kernel_rfl) rfl (fun g1 hg1 => ?_)
  simp only [go_sem]
  refine hK2 _ ?_
  refine awp_seq_k (fun K3 hK3 => ?_)
  refine awp_seq_k (fun K4 hK4 => ?_)
  refine awp_plain 2 (by kernel_rfl) rfl (fun g2 hg2 => ?_)
  simp only [go_sem]
  refine hK4 _ ?_
  refine awp_block ?_
  refine awp_loop (fun m s => ∃ k, k ≤ h ∧ m = h - k ∧ Le { env := [(0, dI x), (1, dN a), (8, dN h), (9, dN k), (7, dI (typS x a k))], σ := [] } s) h ?_ ?_
  · refine ⟨0, Nat.zero_le _, rfl, le_of ?_⟩
    simp only [go_sem]
    exact ⟨rfl, rfl⟩
  · rintro m s ⟨k, hk, rfl, hle⟩
    refine awp_keep hle ?_
    clear hle
    refine awp_seq_k (fun K5 hK5 => ?_)
    by_cases hlt : k < h
    · have i1 := typS_in hx a k
      have i2 := addS_in i1 one_in
      refine awp_plain 1 (by kernel_rfl) rfl (fun g3 hg3 => ?_)
      simp only [go_sem, hlt]
      refine hK5 _ ?_
      refine awp_seq_k (fun K6 hK6 => ?_)
      refine awp_t rfl ?_
      refine awp_skip ?_
      refine hK6 _ ?_
      refine awp_seq_k (fun K7 hK7 => ?_)
      refine awp_block ?_
      refine awp_ops (by kernel_rfl) rfl (fun g4 hg4 ops4 KR4 hops4 hKR4 => ?_)
      refine aops_eval 2 hops4 ?_
      simp only [go_sem]
      refine aops_pure hops4 rfl rfl rfl (add_calls _ 1 i1 one_in _ _) (CoL.refl _) ?_
      refine aops_eval 1 hops4 ?_
      simp only [go_sem]
      refine aops_pure hops4 rfl rfl rfl (pow_calls _ a i2 ha _ _) (CoL.refl _) ?_
      refine aops_pure hops4 rfl rfl rfl (mul_calls _ _ hx (powS_in i2 a) _ _) (CoL.refl _) ?_
      refine aops_last 1 hops4 ?_
      simp only [go_sem]
      refine hKR4 _ ?_
      refine hK7 _ ?_
      refine awp_plain 2 (by kernel_rfl) rfl (fun g5 hg5 => ?_)
      simp only [go_sem]
      try simp (disch := omega) only [wrapN]
      refine ⟨_, ?_, k + 1, hlt, rfl, le_of ?_⟩
      · omega
      simp only [go_sem]
      exact ⟨rfl, rfl⟩
    · have : k = h := by omega
      subst this
      refine awp_plain 1 (by kernel_rfl) rfl (fun g3 hg3 => ?_)
      simp only [go_sem, hlt]
      refine hK5 _ ?_
      refine awp_seq_k (fun K8 hK8 => ?_)
      refine awp_f rfl ?_
      refine awp_exit ?_
      refine hK3 _ ?_
      refine awp_seq_k (fun K9 hK9 => ?_)
      refine awp_plain 2 (by kernel_rfl) rfl (fun g6 hg6 => ?_)
      simp only [go_sem]
      refine hK9 _ ?_
      refine awp_ret ?_
      refine ends_ev rfl ?_
      simp only [go_sem]
      exact Co.refl _
set_option maxRecDepth 100000 in
theorem refPow_calls (a : Int) (ha : inR a) : ∀ (n : Nat), n ≤ 1000000 → ∀ g d, ACalls E 32 [dI a, dN n] [] g d (dI (powS a n)) []
  | 0, _, g, d => by
    refine acalls_of_awp (fn := Tryz.f32) (N := 13) Tryz.call32 Tryz.func32 rfl rfl (by simp) ?_
    simp only [go_sem]
    refine awp_seq_k (fun K1 hK1 => ?_)
    refine awp_plain 1 (by kernel_rfl) rfl (fun g0 hg0 => ?_)
    simp only [go_sem]
    refine hK1 _ ?_
    refine awp_seq_k (fun K2 hK2 => ?_)
    refine awp_seq_k (fun K3 hK3 => ?_)
    refine awp_plain 2 (by kernel_rfl) rfl (fun g1 hg1 => ?_)
    simp only [go_sem, show (((0 : Nat) : Int) = 0) = True from eq_true rfl, decide_true]
    refine hK3 _ ?_
    refine awp_t rfl ?_
    refine awp_seq_k (fun K4 hK4 => ?_)
    refine awp_plain 1 (by kernel_rfl) rfl (fun g2 hg2 => ?_)
    simp only [go_sem]
    refine hK4 _ ?_
    refine awp_ret ?_
    refine ends_ev rfl ?_
    simp only [go_sem]
    exact Co.of_eq rfl
  | n + 1, hn, g, d => by
    have h0 : ¬ (((n + 1 : Nat) : Int) = 0) := by omega
    have h1 : ((n + 1 : Nat) : Int) - 1 = (n : Int) := by omega
    have hw : IntKind.i64.wrap (((n + 1 : Nat) : Int) - 1) = (n : Int) := by rw [h1]; exact wrapN _ (by omega) (by omega)
    refine acalls_of_awp (fn := Tryz.f32) (N := 13) Tryz.call32 Tryz.func32 rfl rfl (by simp) ?_
    simp only [go_sem]
    refine awp_seq_k (fun K1 hK1 => ?_)
    refine awp_plain 1 (by kernel_rfl) rfl (fun g0 hg0 => ?_)
    simp only [go_sem]
    refine hK1 _ ?_
    refine awp_seq_k (fun K2 hK2 => ?_)
    refine awp_seq_k (fun K3 hK3 => ?_)
    refine awp_plain 2 (by kernel_rfl) rfl (fun g1 hg1 => ?_)
    simp only [go_sem, h0, decide_false]
    refine hK3 _ ?_
    refine awp_f rfl ?_
    refine awp_skip ?_
    refine hK2 _ ?_
    refine awp_seq_k (fun K4 hK4 => ?_)
    refine awp_ops (by kernel_rfl) rfl (fun g3 hg3 ops3 KR3 hops3 hKR3 => ?_)
    refine aops_eval 3 hops3 ?_
    simp only [go_sem, hw]
    try simp (disch := omega) only [wrapN, wrapB, Int.tdiv_eq_ediv_of_nonneg, Int.tmod_eq_emod_of_nonneg]
    refine aops_pure hops3 rfl rfl rfl (refPow_calls a ha n (by omega) _ _) (CoL.refl _) ?_
    refine aops_eval 1 hops3 ?_
    simp only [go_sem]
    refine aops_pure hops3 rfl rfl rfl (refMul_calls _ _ (powS_in ha n) ha _ _) (CoL.refl _) ?_
    refine aops_last 1 hops3 ?_
    simp only [go_sem]
    refine hKR3 _ ?_
    refine hK4 _ ?_
    refine awp_ret ?_
    refine ends_ev rfl ?_
    simp only [go_sem]
    exact Co.of_eq rfl
set_option maxRecDepth 100000 in
theorem refTypes_calls (x : Int) (a : Nat) (hx : inR x) (ha : a ≤ 1000000) : ∀ (h : Nat), h ≤ 1000000 → ∀ g d, ACalls E 29 [dI x, dN a, dN h] [] g d (dI (typS x a h)) []
  | 0, _, g, d => by
    refine acalls_of_awp (fn := Tryz.f29) (N := 19) Tryz.call29 Tryz.func29 rfl rfl (by simp) ?_
    simp only [go_sem]
    refine awp_seq_k (fun K1 hK1 => ?_)
    refine awp_plain 1 (by kernel_rfl) rfl (fun g0 hg0 => ?_)
    simp only [go_sem]
    refine hK1 _ ?_
    refine awp_seq_k (fun K2 hK2 => ?_)
    refine awp_seq_k (fun K3 hK3 => ?_)
    refine awp_plain 2 (by kernel_rfl) rfl (fun g1 hg1 => ?_)
    simp only [go_sem, show (((0 : Nat) : Int) = 0) = True from eq_true rfl, decide_true]
    refine hK3 _ ?_
    refine awp_t rfl ?_
    refine awp_seq_k (fun K4 hK4 => ?_)
    refine awp_plain 1 (by kernel_rfl) rfl (fun g2 hg2 => ?_)
    simp only [go_sem]
    refine hK4 _ ?_
    refine awp_ret ?_
    refine ends_ev rfl ?_
    simp only [go_sem]
    exact Co.of_eq rfl
  | n + 1, hn, g, d => by
    have h0 : ¬ (((n + 1 : Nat) : Int) = 0) := by omega
    have h1 : ((n + 1 : Nat) : Int) - 1 = (n : Int) := by omega
    have hw : IntKind.i64.wrap (((n + 1 : Nat) : Int) - 1) = (n : Int) := by rw [h1]; exact wrapN _ (by omega) (by omega)
    have i1 := typS_in hx a n
    have i2 := addS_in i1 one_in
    refine acalls_of_awp (fn := Tryz.f29) (N := 19) Tryz.call29 Tryz.func29 rfl rfl (by simp) ?_
    simp only [go_sem]
    refine awp_seq_k (fun K1 hK1 => ?_)
    refine awp_plain 1 (by kernel_rfl) rfl (fun g0 hg0 => ?_)
    simp only [go_sem]
    refine hK1 _ ?_
    refine awp_seq_k (fun K2 hK2 => ?_)
    refine awp_seq_k (fun K3 hK3 => ?_)
    refine awp_plain 2 (by kernel_rfl) rfl (fun g1 hg1 => ?_)
    simp only [go_sem, h0, decide_false]
    refine hK3 _ ?_
    refine awp_f rfl ?_
    refine awp_skip ?_
    refine hK2 _ ?_
    refine awp_seq_k (fun K4 hK4 => ?_)
    refine awp_ops (by kernel_rfl) rfl (fun g3 hg3 ops3 KR3 hops3 hKR3 => ?_)
    refine aops_eval 5 hops3 ?_
    simp only [go_sem, hw]
    try simp (disch := omega) only [wrapN, wrapB, Int.tdiv_eq_ediv_of_nonneg, Int.tmod_eq_emod_of_nonneg]
    refine aops_pure hops3 rfl rfl rfl (refTypes_calls x a hx ha n (by omega) _ _) (CoL.refl _) ?_
    refine aops_pure hops3 rfl rfl rfl (refAdd_calls _ 1 i1 one_in _ _) (CoL.refl _) ?_
    refine aops_eval 1 hops3 ?_
    simp only [go_sem]
    refine aops_pure hops3 rfl rfl rfl (refPow_calls _ i2 a ha _ _) (CoL.refl _) ?_
    refine aops_pure hops3 rfl rfl rfl (refMul_calls _ _ hx (powS_in i2 a) _ _) (CoL.refl _) ?_
    refine aops_last 1 hops3 ?_
    simp only [go_sem]
    refine hKR3 _ ?_
    refine hK4 _ ?_
    refine awp_ret ?_
    refine ends_ev rfl ?_
    simp only [go_sem]
    exact Co.of_eq rfl
end Go.Proofs.T


namespace Go.Proofs.T
open Go Go.Ab Go.RowKit

/-! ## A program of one declaration: what is called with nothing -/

abbrev nilS : D := .val (.slice none 0 0)
abbrev noS : D := .sl false []
set_option maxRecDepth 100000 in
theorem formals_none (g d : Nat) : ACalls E 87 [nilS] [] g d noS [] := by
  refine acalls_of_awp (fn := Tryz.f87) (N := 19) Tryz.call87 Tryz.func87 rfl rfl (by simp) ?_
  simp only [go_sem]
  refine awp_seq_k (fun K1 hK1 => ?_)
  refine awp_plain 1 (by kernel_rfl) rfl (fun g0 hg0 => ?_)
  simp only [go_sem]
  refine hK1 _ ?_
  refine awp_seq_k (fun K2 hK2 => ?_)
  refine awp_plain 1 (by kernel_rfl) rfl (fun g1 hg1 => ?_)
  simp only [go_sem]
  refine hK2 _ ?_
  refine awp_seq_k (fun K3 hK3 => ?_)
  refine awp_seq_k (fun K4 hK4 => ?_)
  refine awp_plain 3 (by kernel_rfl) rfl (fun g2 hg2 => ?_)
  simp only [go_sem]
  refine hK4 _ ?_
  refine awp_block ?_
  refine awp_loop (fun m s => m = 0 ∧ Le { env := [(3, nilS), (7, dN 0), (8, dN 0)], σ := [] } s) 0 ?_ ?_
  · refine ⟨rfl, le_of ?_⟩
    simp only [go_sem]
    first | exact rfl | trivial
  · rintro m s ⟨rfl, hle⟩
    refine awp_keep hle ?_
    clear hle
    refine awp_seq_k (fun K5 hK5 => ?_)
    refine awp_plain 1 (by kernel_rfl) rfl (fun g3 hg3 => ?_)
    simp only [go_sem, show (((0 : Nat) : Int) < ((0 : Nat) : Int)) = False from eq_false (by decide), decide_false]
    refine hK5 _ ?_
    refine awp_seq_k (fun K6 hK6 => ?_)
    refine awp_f rfl ?_
    refine awp_exit ?_
    refine hK3 _ ?_
    refine awp_seq_k (fun K7 hK7 => ?_)
    refine awp_plain 2 (by kernel_rfl) rfl (fun g7 hg7 => ?_)
    simp only [go_sem]
    refine hK7 _ ?_
    refine awp_ret ?_
    refine ends_ev rfl ?_
    simp only [go_sem]
    exact Co.nil _
set_option maxRecDepth 100000 in
theorem params_none (g d : Nat) : ACalls E 88 [nilS] [] g d noS [] := by
  refine acalls_of_awp (fn := Tryz.f88) (N := 19) Tryz.call88 Tryz.func88 rfl rfl (by simp) ?_
  simp only [go_sem]
  refine awp_seq_k (fun K1 hK1 => ?_)
  refine awp_plain 1 (by kernel_rfl) rfl (fun g0 hg0 => ?_)
  simp only [go_sem]
  refine hK1 _ ?_
  refine awp_seq_k (fun K2 hK2 => ?_)
  refine awp_plain 1 (by kernel_rfl) rfl (fun g1 hg1 => ?_)
  simp only [go_sem]
  refine hK2 _ ?_
  refine awp_seq_k (fun K3 hK3 => ?_)
  refine awp_seq_k (fun K4 hK4 => ?_)
  refine awp_plain 3 (by kernel_rfl) rfl (fun g2 hg2 => ?_)
  simp only [go_sem]
  refine hK4 _ ?_
  refine awp_block ?_
  refine awp_loop (fun m s => m = 0 ∧ Le { env := [(3, nilS), (7, dN 0), (8, dN 0)], σ := [] } s) 0 ?_ ?_
  · refine ⟨rfl, le_of ?_⟩
    simp only [go_sem]
    first | exact rfl | trivial
  · rintro m s ⟨rfl, hle⟩
    refine awp_keep hle ?_
    clear hle
    refine awp_seq_k (fun K5 hK5 => ?_)
    refine awp_plain 1 (by kernel_rfl) rfl (fun g3 hg3 => ?_)
    simp only [go_sem, show (((0 : Nat) : Int) < ((0 : Nat) : Int)) = False from eq_false (by decide), decide_false]
    refine hK5 _ ?_
    refine awp_seq_k (fun K6 hK6 => ?_)
    refine awp_f rfl ?_
    refine awp_exit ?_
    refine hK3 _ ?_
    refine awp_seq_k (fun K7 hK7 => ?_)
    refine awp_plain 2 (by kernel_rfl) rfl (fun g7 hg7 => ?_)
    simp only [go_sem]
    refine hK7 _ ?_
    refine awp_ret ?_
    refine ends_ev rfl ?_
    simp only [go_sem]
    exact Co.nil _
theorem grow_none (g d : Nat) : ACalls E 125 [nilS, dI 0] [] g d nilS [] := by
  refine acalls_of_awp (fn := Tryz.f125) (N := 27) Tryz.call125 Tryz.func125 rfl rfl (by simp) ?_
  simp only [go_sem]
  refine awp_seq_k (fun K1 hK1 => ?_)
  refine awp_plain 1 (by kernel_rfl) rfl (fun g0 hg0 => ?_)
  simp only [go_sem]
  refine hK1 _ ?_
  refine awp_seq_k (fun K2 hK2 => ?_)
  refine awp_seq_k (fun K3 hK3 => ?_)
  refine awp_plain 2 (by kernel_rfl) rfl (fun g1 hg1 => ?_)
  simp only [go_sem, show ((0 : Int) < 0) = False from eq_false (by decide), decide_false]
  refine hK3 _ ?_
  refine awp_f rfl ?_
  refine awp_skip ?_
  refine hK2 _ ?_
  refine awp_seq_k (fun K4 hK4 => ?_)
  refine awp_seq_k (fun K5 hK5 => ?_)
  refine awp_plain 8 (by kernel_rfl) rfl (fun g3 hg3 => ?_)
  simp only [go_sem]
  try simp (disch := omega) only [wrapN]
  refine hK5 _ ?_
  refine awp_seq_k (fun K6 hK6 => ?_)
  refine awp_plain 2 (by kernel_rfl) rfl (fun g4 hg4 => ?_)
  simp only [go_sem]
  refine hK6 _ ?_
  refine awp_f rfl ?_
  refine awp_skip ?_
  refine hK4 _ ?_
  refine awp_seq_k (fun K7 hK7 => ?_)
  refine awp_plain 2 (by kernel_rfl) rfl (fun g6 hg6 => ?_)
  simp only [go_sem]
  refine hK7 _ ?_
  refine awp_ret ?_
  refine ends_ev rfl ?_
  simp only [go_sem]
  exact Co.refl _
theorem nn_get (k : Nat) (h : k < 2) : ([noS, noS] : List D)[k]? = some noS := by
  match k, h with
  | 0, _ => rfl
  | 1, _ => rfl
set_option maxRecDepth 100000 in
theorem concat_none (g d : Nat) : ACalls E 86 [.sl true [noS, noS]] [] g d noS [] := by
  refine acalls_of_awp (fn := Tryz.f86) (N := 36) Tryz.call86 Tryz.func86 rfl rfl (by simp) ?_
  simp only [go_sem]
  refine awp_seq_k (fun K1 hK1 => ?_)
  refine awp_plain 1 (by kernel_rfl) rfl (fun g0 hg0 => ?_)
  simp only [go_sem]
  refine hK1 _ ?_
  refine awp_seq_k (fun K2 hK2 => ?_)
  refine awp_plain 1 (by kernel_rfl) rfl (fun g1 hg1 => ?_)
  simp only [go_sem]
  refine hK2 _ ?_
  refine awp_seq_k (fun K3 hK3 => ?_)
  refine awp_seq_k (fun K4 hK4 => ?_)
  refine awp_plain 3 (by kernel_rfl) rfl (fun g2 hg2 => ?_)
  simp only [go_sem]
  refine hK4 _ ?_
  refine awp_block ?_
  refine awp_loop (fun m s => ∃ k, k ≤ 2 ∧ m = 2 - k ∧ Le { env := [(0, .sl true [noS, noS]), (3, dI 0), (9, .sl true [noS, noS]), (10, dN 2), (11, dN k)], σ := [] } s) 2 ?_ ?_
  · refine ⟨0, Nat.zero_le _, rfl, le_of ?_⟩
    simp only [go_sem]
    first | exact rfl | exact ⟨rfl, rfl⟩ | trivial
  · rintro m s ⟨k, hk, rfl, hle⟩
    refine awp_keep hle ?_
    clear hle
    refine awp_seq_k (fun K5 hK5 => ?_)
    by_cases hlt : k < 2
    · have hlt' : (k : Int) < ((2 : Nat) : Int) := by omega
      refine awp_plain 1 (by kernel_rfl) rfl (fun g3 hg3 => ?_)
      simp only [go_sem, hlt', decide_true]
      refine hK5 _ ?_
      refine awp_seq_k (fun K6 hK6 => ?_)
      refine awp_t rfl ?_
      refine awp_skip ?_
      refine hK6 _ ?_
      refine awp_seq_k (fun K7 hK7 => ?_)
      refine awp_block ?_
      refine awp_seq_k (fun K8 hK8 => ?_)
      refine awp_plain 3 (by kernel_rfl) rfl (fun g4 hg4 => ?_)
      simp only [go_sem, nn_get k hlt]
      refine hK8 _ ?_
      refine awp_seq_k (fun K9 hK9 => ?_)
      refine awp_plain 5 (by kernel_rfl) rfl (fun g5 hg5 => ?_)
      simp only [go_sem]
      try simp (disch := omega) only [wrapN]
      refine hK9 _ ?_
      refine awp_seq_k (fun K10 hK10 => ?_)
      refine awp_plain 2 (by kernel_rfl) rfl (fun g6 hg6 => ?_)
      simp only [go_sem]
      refine hK10 _ ?_
      refine awp_f rfl ?_
      refine awp_skip ?_
      refine hK7 _ ?_
      refine awp_plain 2 (by kernel_rfl) rfl (fun g8 hg8 => ?_)
      simp only [go_sem]
      try simp (disch := omega) only [wrapN]
      refine ⟨_, ?_, k + 1, hlt, rfl, le_of ?_⟩
      · omega
      simp only [go_sem]
      first | exact rfl | exact ⟨rfl, rfl⟩ | trivial
    · have : k = 2 := by omega
      subst this
      refine awp_plain 1 (by kernel_rfl) rfl (fun g3 hg3 => ?_)
      simp only [go_sem, show (((2 : Nat) : Int) < ((2 : Nat) : Int)) = False from eq_false (by decide), decide_false]
      refine hK5 _ ?_
      refine awp_seq_k (fun K11 hK11 => ?_)
      refine awp_f rfl ?_
      refine awp_exit ?_
      refine hK3 _ ?_
      refine awp_seq_k (fun K12 hK12 => ?_)
      refine awp_ops (by kernel_rfl) rfl (fun g9 hg9 ops9 KR9 hops9 hKR9 => ?_)
      refine aops_eval 1 hops9 ?_
      simp only [go_sem]
      refine aops_pure hops9 rfl rfl rfl (grow_none _ _) (CoL.refl _) ?_
      refine aops_last 1 hops9 ?_
      simp only [go_sem]
      refine hKR9 _ ?_
      refine hK12 _ ?_
      refine awp_seq_k (fun K13 hK13 => ?_)
      refine awp_seq_k (fun K14 hK14 => ?_)
      refine awp_plain 3 (by kernel_rfl) rfl (fun g10 hg10 => ?_)
      simp only [go_sem]
      refine hK14 _ ?_
      refine awp_block ?_
      refine awp_nil 6 25 3 rfl fun gn hgn => ?_
      refine awp_loop (fun m s => ∃ k a i, k ≤ 2 ∧ m = 2 - k ∧ Le { env := [(6, .own ⟨a, i, 0⟩ 0), (25, .sl true [noS, noS]), (26, dN 2), (27, dN k)], σ := [(⟨a, i, 0⟩, .arr 25 3 [])] } s) 2 ?_ ?_
      · refine ⟨0, gn, 0, Nat.zero_le _, rfl, le_of ?_⟩
        simp only [go_sem]
        first | exact rfl | exact ⟨rfl, rfl⟩ | trivial
      · rintro m s ⟨k, a, i, hk, rfl, hle⟩
        refine awp_keep hle ?_
        clear hle
        refine awp_seq_k (fun K15 hK15 => ?_)
        by_cases hlt : k < 2
        · have hlt' : (k : Int) < ((2 : Nat) : Int) := by omega
          refine awp_plain 1 (by kernel_rfl) rfl (fun g11 hg11 => ?_)
          simp only [go_sem, hlt', decide_true]
          refine hK15 _ ?_
          refine awp_seq_k (fun K16 hK16 => ?_)
          refine awp_t rfl ?_
          refine awp_skip ?_
          refine hK16 _ ?_
          refine awp_seq_k (fun K17 hK17 => ?_)
          refine awp_block ?_
          refine awp_seq_k (fun K18 hK18 => ?_)
          refine awp_plain 3 (by kernel_rfl) rfl (fun g12 hg12 => ?_)
          simp only [go_sem, nn_get k hlt]
          refine hK18 _ ?_
          refine awp_ops (by kernel_rfl) rfl (fun g13 hg13 ops13 KR13 hops13 hKR13 => ?_)
          refine aops_eval 2 hops13 ?_
          simp only [go_sem]
          refine aops_app hops13 rfl rfl rfl rfl rfl es23 sz25 by25 ze25 rfl (by decide) ?_
          simp only [go_sem]
          first | refine ⟨⟨by omega, by omega⟩, ?_⟩ | skip
          refine aops_last 1 hops13 ?_
          simp only [go_sem]
          refine hKR13 _ ?_
          refine hK17 _ ?_
          refine awp_plain 2 (by kernel_rfl) rfl (fun g14 hg14 => ?_)
          simp only [go_sem]
          try simp (disch := omega) only [wrapN]
          refine ⟨_, ?_, k + 1, g13, 33, hlt, rfl, le_of ?_⟩
          · omega
          simp only [go_sem]
          first | exact rfl | exact ⟨rfl, rfl⟩ | trivial
        · have : k = 2 := by omega
          subst this
          refine awp_plain 1 (by kernel_rfl) rfl (fun g11 hg11 => ?_)
          simp only [go_sem, show (((2 : Nat) : Int) < ((2 : Nat) : Int)) = False from eq_false (by decide), decide_false]
          refine hK15 _ ?_
          refine awp_seq_k (fun K19 hK19 => ?_)
          refine awp_f rfl ?_
          refine awp_exit ?_
          refine hK13 _ ?_
          refine awp_seq_k (fun K20 hK20 => ?_)
          refine awp_plain 2 (by kernel_rfl) rfl (fun g15 hg15 => ?_)
          simp only [go_sem]
          refine hK20 _ ?_
          refine awp_ret ?_
          refine ret_frz ⟨a, i, 0⟩ ?_
          simp only [go_sem]
          refine ends_ev rfl ?_
          simp only [go_sem]
          exact Co.inexact _ _
end Go.Proofs.T


namespace Go.Proofs.T
open Go Go.Ab Go.RowKit

/-! ## The types of one expression -/

def sT : Str := ⟨#[84]⟩
def tT : Ty := .mk sT [] 0
def e0 : Ex := .mk 3 ByteArray.empty tT [] [] 0
abbrev e0c : List D := [dI 3, .val (.string ByteArray.empty), .val (.string sT), nilS, dI 0, nilS, nilS, dI 0]
theorem coE0 : Co (.agg e0c) (encEx e0) := by
  rw [encEx_agg]
  exact .agg (.cons (.refl _) (.cons (.refl _) (.cons (.refl _) (.cons (.nil _) (.cons (.refl _) (.cons (.nil _) (.cons (.nil _) (.cons (.refl _) .nil))))))))
theorem okE0 : okEx e0 := by simp [e0, tT, okEx, okExs, okTy, okTys, sT, ByteArray.size]
theorem nodesE0 : nodesEx e0 = [e0] := by simp [e0, nodesEx, nodesExs]
theorem sub_of {l σ : Sto} (h : leS l σ) : ∀ n o, Ab.get l n = some o → Ab.get σ n = some o := fun n o hn => leS_spec h (n, o) (mem_of_get hn)

set_option maxRecDepth 100000 in
theorem body_e0 (g d : Nat) : ACalls E 90 [.agg e0c] [] g d (.sl false [encTy tT]) [] := by
  refine acalls_of_awp (fn := Tryz.f90) (N := 28) Tryz.call90 Tryz.func90 rfl rfl (by simp) ?_
  simp only [go_sem]
  refine awp_seq_k (fun K1 hK1 => ?_)
  refine awp_plain 2 (by kernel_rfl) rfl (fun g0 hg0 => ?_)
  simp only [go_sem]
  refine hK1 _ ?_
  refine awp_seq_k (fun K2 hK2 => ?_)
  refine awp_plain 1 (by kernel_rfl) rfl (fun g1 hg1 => ?_)
  simp only [go_sem]
  refine hK2 _ ?_
  refine awp_seq_k (fun K3 hK3 => ?_)
  refine awp_seq_k (fun K4 hK4 => ?_)
  refine awp_ops (by kernel_rfl) rfl (fun g2 hg2 ops2 KR2 hops2 hKR2 => ?_)
  refine aops_eval 1 hops2 ?_
  simp only [go_sem]
  refine aops_pure hops2 rfl rfl rfl (allX_calls e0 _ _) (.cons coE0 .nil) ?_
  refine aops_last 0 hops2 ?_
  simp only [go_sem]
  refine hKR2 _ ?_
  refine hK4 _ ?_
  refine awp_block ?_
  refine awp_nil_box ⟨g1, 3, 0⟩ 0 25 3 ?_
  simp only [go_sem]
  intro gn hgn
  have hn : gn ≠ g1 := fresh_g hgn 3 0 (by simp [go_sem])
  have hn0 : gn ≠ g0 := fresh_g hgn 1 0 (by simp [go_sem])
  refine awp_range_k rfl rfl (by decide) ((nodesEx e0).map encEx) (fun k σ => ∃ a i, a ≠ g1 ∧ ∀ n o, Ab.get [(⟨g1, 3, 0⟩, .box 23 [.own ⟨a, i, 0⟩ k]), (⟨a, i, 0⟩, .arr 25 3 (List.replicate k (encTy tT)))] n = some o → Ab.get σ n = some o) ⟨gn, 0, hn, sub_of ?_⟩ (fun n I hY => all1_calls e0 okE0 n I hY) (fun k hk σ hJ KA hKA => ?_) (fun σ hJ => ?_)
  · simp only [go_sem, hn, Ne.symm hn, Ne.symm hn0, List.replicate]
    try trivial
  · have hk0 : k = 0 := by simpa [nodesE0] using hk
    subst hk0
    obtain ⟨a, i, ha, hσ⟩ := hJ
    refine awp_keepT (st' := { env := [(7, encEx e0), (3, .ptr ⟨g1, 3, 0⟩ 0)], σ := [(⟨g1, 3, 0⟩, .box 23 [.own ⟨a, i, 0⟩ 0]), (⟨a, i, 0⟩, .arr 25 3 [])] }) ⟨leE_spec ?_, hσ⟩ ?_
    · simp only [go_sem, nodesE0]
      try trivial
    refine awp_plain 2 (by kernel_rfl) rfl (fun g3 hg3 => ?_)
    simp only [go_sem, e0, tT]
    refine hKA _ (fun KB hKB => ?_)
    refine awp_block ?_
    refine awp_seq_k (fun K5 hK5 => ?_)
    have hn3_a : g3 ≠ a := fresh_g hg3 i 0 (by simp [go_sem, Ne.symm ha])
    have hn3_g1 : g3 ≠ g1 := fresh_g hg3 3 0 (by simp [go_sem])
    refine awp_ops (by kernel_rfl) rfl (fun g4 hg4 ops4 KR4 hops4 hKR4 => ?_)
    refine aops_eval 3 hops4 ?_
    simp only [go_sem, ha, Ne.symm hn3_a, hn3_g1, Ne.symm hn3_g1]
    have hn4_a : g4 ≠ a := fresh_g hg4 i 0 (by simp [go_sem, Ne.symm ha, hn3_a])
    have hn4_g1 : g4 ≠ g1 := fresh_g hg4 3 0 (by simp [go_sem, hn3_g1])
    refine aops_app hops4 rfl rfl rfl rfl rfl es23 sz25 by25 ze25 rfl (by decide) ?_
    simp only [go_sem, Ne.symm ha, hn3_a]
    first | refine ⟨⟨by omega, by omega⟩, ?_⟩ | skip
    refine aops_last 1 hops4 ?_
    simp only [go_sem, hn3_g1, hn4_g1]
    refine hKR4 _ ?_
    refine hK5 _ ?_
    refine awp_seq_k (fun K6 hK6 => ?_)
    refine awp_plain 8 (by kernel_rfl) rfl (fun g5 hg5 => ?_)
    simp only [go_sem, decide_true, Ne.symm hn3_g1]
    refine hK6 _ ?_
    refine awp_t rfl ?_
    refine awp_anyR 5 (by kernel_rfl) (by kernel_rfl) rfl #[true, true, true, true, true, false, false, false, false] (by kernel_rfl) (fun g6 hg6 ops6 KR6 hops6 hKR6 => ?_)
    have hn61 : g6 ≠ g1 := fresh_g hg6 3 0 (by simp [go_sem])
    refine qrun_last 5 hops6 ?_
    simp only [go_sem, hn3_g1, Ne.symm hn3_g1, hn4_g1]
    refine hKR6 _ ?_
    refine aany_one 5 (by kernel_rfl) (by kernel_rfl) ?_
    refine ago_app rfl rfl rfl rfl rfl rfl rfl es23 sz25 by25 ze25 rfl (by decide) ?_
    simp only [go_sem, Ne.symm hn4_g1]
    first | refine ⟨⟨by omega, by omega⟩, ?_⟩ | skip
    refine aany_two 6 8 (by kernel_rfl) (by kernel_rfl) ?_ ?_
    · refine ago_step rfl rfl rfl ?_
      simp only [go_sem]
      refine aany_two 7 8 (by kernel_rfl) (by kernel_rfl) ?_ ?_
      · refine ago_step rfl rfl rfl ?_
        simp only [go_sem]
        refine aany_one 8 (by kernel_rfl) (by kernel_rfl) ?_
        refine ago_step rfl rfl rfl ?_
        simp only [go_sem, hn3_g1]
        refine aany_done (by kernel_rfl) (by decide) ?_
        refine hKB _ ?_
        refine ⟨g6, 25, ?_, sub_of ?_⟩
        · exact hn61
        simp only [go_sem, tT, hn3_g1]
        exact encTy_mk sT [] 0
      · refine ago_step rfl rfl rfl ?_
        simp only [go_sem, hn3_g1]
        refine aany_one 7 (by kernel_rfl) (by kernel_rfl) ?_
        refine ago_step rfl rfl rfl ?_
        simp only [go_sem]
        refine aany_done (by kernel_rfl) (by decide) ?_
        refine hKB _ ?_
        refine ⟨g6, 25, ?_, sub_of ?_⟩
        · exact hn61
        simp only [go_sem, tT, hn3_g1]
        exact encTy_mk sT [] 0
    · refine ago_step rfl rfl rfl ?_
      simp only [go_sem, hn3_g1]
      refine aany_one 6 (by kernel_rfl) (by kernel_rfl) ?_
      refine ago_step rfl rfl rfl ?_
      simp only [go_sem]
      refine aany_one 7 (by kernel_rfl) (by kernel_rfl) ?_
      refine ago_step rfl rfl rfl ?_
      simp only [go_sem]
      refine aany_done (by kernel_rfl) (by decide) ?_
      refine hKB _ ?_
      refine ⟨g6, 25, ?_, sub_of ?_⟩
      · exact hn61
      simp only [go_sem, tT, hn3_g1]
      exact encTy_mk sT [] 0
  · simp only [nodesE0, List.map_cons, List.map_nil, List.length_cons, List.length_nil, Nat.zero_add] at hJ
    obtain ⟨a, i, ha, hσ⟩ := hJ
    refine hK3 _ ?_
    refine awp_seq_k (fun K7 hK7 => ?_)
    refine awp_keepT (st' := { env := [(3, .ptr ⟨g1, 3, 0⟩ 0)], σ := [(⟨g1, 3, 0⟩, .box 23 [.own ⟨a, i, 0⟩ 1]), (⟨a, i, 0⟩, .arr 25 3 [encTy tT])] }) ⟨leE_spec ?_, hσ⟩ ?_
    · simp only [go_sem]
      try trivial
    refine awp_plain 2 (by kernel_rfl) rfl (fun g7 hg7 => ?_)
    simp only [go_sem, ha]
    refine hK7 _ ?_
    refine awp_ret ?_
    refine ret_frz ⟨a, i, 0⟩ ?_
    simp only [go_sem, Ne.symm ha]
    refine ends_ev rfl ?_
    simp only [go_sem]
    exact Co.inexact _ _
end Go.Proofs.T


namespace Go.Proofs.T
open Go Go.Ab Go.RowKit

/-! ## The types of the program -/

set_option maxRecDepth 100000 in
theorem copies_calls (l : List Ty) (hl : l.length ≤ 1000000) (h : ∀ t ∈ l, smTy t) (g d : Nat) : ACalls E 91 [slTy l, .func (.func 92) [] []] [] g d (slTy l) [] := by
  refine acalls_of_awp (fn := Tryz.f91) (N := 22) Tryz.call91 Tryz.func91 rfl rfl (by simp) ?_
  simp only [go_sem]
  refine awp_seq_k (fun K1 hK1 => ?_)
  refine awp_plain 1 (by kernel_rfl) rfl (fun g0 hg0 => ?_)
  simp only [go_sem]
  refine hK1 _ ?_
  refine awp_seq_k (fun K2 hK2 => ?_)
  refine awp_plain 1 (by kernel_rfl) rfl (fun g1 hg1 => ?_)
  simp only [go_sem]
  refine hK2 _ ?_
  refine awp_seq_k (fun K3 hK3 => ?_)
  refine awp_seq_k (fun K4 hK4 => ?_)
  refine awp_plain 3 (by kernel_rfl) rfl (fun g2 hg2 => ?_)
  simp only [go_sem]
  refine hK4 _ ?_
  refine awp_block ?_
  refine awp_nil 5 25 3 rfl fun gn hgn => ?_
  refine awp_loop (fun m s => ∃ k a i, k ≤ l.length ∧ m = l.length - k ∧
      Le { env := [(1, .func (.func 92) [] []), (8, slTy l), (9, dN l.length), (10, dN k), (5, .own ⟨a, i, 0⟩ k)], σ := [(⟨a, i, 0⟩, .arr 25 3 ((l.take k).map encTy))] } s) l.length ?_ ?_
  · refine ⟨0, gn, 0, Nat.zero_le _, rfl, le_of ?_⟩
    simp only [go_sem]
    trivial
  · rintro m s ⟨k, a, i, hk, rfl, hle⟩
    refine awp_keep hle ?_
    clear hle
    by_cases hlt : k < l.length
    · refine awp_seq_k (fun K5 hK5 => ?_)
      refine awp_plain 1 (by kernel_rfl) rfl (fun g3 hg3 => ?_)
      simp only [go_sem, hlt]
      refine hK5 _ ?_
      refine awp_seq_k (fun K6 hK6 => ?_)
      refine awp_t rfl ?_
      refine awp_skip ?_
      refine hK6 _ ?_
      refine awp_seq_k (fun K7 hK7 => ?_)
      refine awp_block ?_
      refine awp_seq_k (fun K8 hK8 => ?_)
      refine awp_plain 4 (by kernel_rfl) rfl (fun g4 hg4 => ?_)
      simp only [go_sem, getM hlt]
      refine hK8 _ ?_
      have hn4_a : g4 ≠ a := fresh_g hg4 i 0 (by simp [go_sem])
      refine awp_ops (by kernel_rfl) rfl (fun g5 hg5 ops5 KR5 hops5 hKR5 => ?_)
      refine aops_eval 3 hops5 ?_
      simp only [go_sem, Ne.symm hn4_a]
      refine aops_pure hops5 rfl rfl rfl (clone_calls _ (h _ (List.getElem_mem hlt)) _ _) (CoL.refl _) ?_
      refine aops_eval 1 hops5 ?_
      simp only [go_sem]
      refine aops_app hops5 rfl rfl rfl rfl rfl es23 sz25 by25 ze25 rfl (by decide) ?_
      simp only [go_sem, List.length_take_of_le (Nat.le_of_lt hlt), hn4_a]
      first | refine ⟨⟨by omega, by omega⟩, ?_⟩ | skip
      refine aops_last 1 hops5 ?_
      simp only [go_sem]
      refine hKR5 _ ?_
      refine hK7 _ ?_
      refine awp_plain 2 (by kernel_rfl) rfl (fun g6 hg6 => ?_)
      simp only [go_sem]
      try simp (disch := omega) only [wrapN]
      refine ⟨_, ?_, k + 1, g5, 19, hlt, rfl, le_of ?_⟩
      · omega
      simp only [go_sem, ← takeM _ hlt]
      omega
    · refine awp_seq_k (fun K9 hK9 => ?_)
      refine awp_plain 1 (by kernel_rfl) rfl (fun g3 hg3 => ?_)
      simp only [go_sem, hlt]
      refine hK9 _ ?_
      refine awp_seq_k (fun K10 hK10 => ?_)
      refine awp_f rfl ?_
      refine awp_exit ?_
      refine hK3 _ ?_
      refine awp_seq_k (fun K11 hK11 => ?_)
      refine awp_plain 2 (by kernel_rfl) rfl (fun g7 hg7 => ?_)
      simp only [go_sem]
      refine hK11 _ ?_
      refine awp_ret ?_
      have : k = l.length := by omega
      subst this
      refine ret_frz ⟨a, i, 0⟩ ?_
      simp only [go_sem]
      refine ends_ev rfl ?_
      simp only [go_sem]
      exact Co.of_eq (by simp [])
theorem sm_tT : smTy tT := (smTy_iff _).2 ⟨by decide, by simp [tT, Ty.args], by simp [tT, Ty.args]⟩
theorem depth_tT (g d : Nat) : ACalls E 51 [encTy tT] [] g d (dI 1) [] := by
  refine acalls_of_awp (fn := Tryz.f51) (N := 20) Tryz.call51 Tryz.func51 rfl rfl (by simp) ?_
  simp only [go_sem]
  refine awp_seq_k (fun K1 hK1 => ?_)
  refine awp_plain 2 (by kernel_rfl) rfl (fun g0 hg0 => ?_)
  simp only [go_sem]
  refine hK1 _ ?_
  refine awp_seq_k (fun K2 hK2 => ?_)
  refine awp_plain 1 (by kernel_rfl) rfl (fun g1 hg1 => ?_)
  simp only [go_sem]
  refine hK2 _ ?_
  refine awp_seq_k (fun K3 hK3 => ?_)
  refine awp_seq_k (fun K4 hK4 => ?_)
  refine awp_plain 4 (by kernel_rfl) rfl (fun g2 hg2 => ?_)
  simp only [go_sem, show tT.args = [] from rfl]
  refine hK4 _ ?_
  refine awp_block ?_
  refine awp_loop (fun m s => m = 0 ∧ Le { env := [(3, dI 0), (8, dN 0), (9, dN 0)], σ := [] } s) 0 ?_ ?_
  · refine ⟨rfl, le_of ?_⟩
    simp only [go_sem]
    first | exact rfl | exact ⟨rfl, rfl⟩ | trivial
  · rintro m s ⟨rfl, hle⟩
    refine awp_keep hle ?_
    clear hle
    refine awp_seq_k (fun K5 hK5 => ?_)
    refine awp_plain 1 (by kernel_rfl) rfl (fun g3 hg3 => ?_)
    simp only [go_sem, show (((0 : Nat) : Int) < ((0 : Nat) : Int)) = False from eq_false (by decide), decide_false]
    refine hK5 _ ?_
    refine awp_seq_k (fun K6 hK6 => ?_)
    refine awp_f rfl ?_
    refine awp_exit ?_
    refine hK3 _ ?_
    refine awp_seq_k (fun K7 hK7 => ?_)
    refine awp_plain 3 (by kernel_rfl) rfl (fun g7 hg7 => ?_)
    simp only [go_sem, show (0 : Int) + 1 = 1 from rfl, show IntKind.i64.wrap 1 = 1 from by decide]
    try simp (disch := omega) only [wrapN, wrapB, Int.tdiv_eq_ediv_of_nonneg, Int.tmod_eq_emod_of_nonneg]
    refine hK7 _ ?_
    refine awp_ret ?_
    refine ends_ev rfl ?_
    simp only [go_sem]
    exact Co.of_eq (by simp [])

abbrev sE : D := .val (.string ByteArray.empty)
abbrev dTc : List D := [dI 1, .val (.string sT), nilS, nilS, nilS, sE, nilS, sE, nilS, nilS, sE, nilS, dI 0, dI 0, dI 0, sE, sE, nilS, dI 0, nilS, nilS, dI 0, dI 0]
abbrev p0c : List D := [.sl true [.agg dTc], dI 3, sE, .val (.string sT), nilS, dI 0, nilS, nilS, dI 0]
theorem one_get (k : Nat) (h : k < 1) : ([.agg dTc] : List D)[k]? = some (.agg dTc) := by
  match k, h with
  | 0, _ => rfl
set_option maxRecDepth 100000 in
theorem types_p0 (g d : Nat) : ACalls E 50 [.agg p0c] [] g d (slTy [tT]) [] := by
  refine acalls_of_awp (fn := Tryz.f50) (N := 57) Tryz.call50 Tryz.func50 rfl rfl (by simp) ?_
  simp only [go_sem]
  refine awp_seq_k (fun K1 hK1 => ?_)
  refine awp_plain 2 (by kernel_rfl) rfl (fun g0 hg0 => ?_)
  simp only [go_sem]
  refine hK1 _ ?_
  refine awp_seq_k (fun K2 hK2 => ?_)
  refine awp_plain 1 (by kernel_rfl) rfl (fun g1 hg1 => ?_)
  simp only [go_sem]
  refine hK2 _ ?_
  refine awp_seq_k (fun K3 hK3 => ?_)
  refine awp_seq_k (fun K4 hK4 => ?_)
  refine awp_plain 4 (by kernel_rfl) rfl (fun g2 hg2 => ?_)
  simp only [go_sem]
  refine hK4 _ ?_
  refine awp_block ?_
  refine awp_nil 3 25 3 rfl fun gn hgn => ?_
  have hn : gn ≠ g0 := fresh_g hgn 1 0 (by simp [go_sem])
  refine awp_loop (fun m s => ∃ k a i, k ≤ 1 ∧ m = 1 - k ∧ a ≠ g0 ∧
      Le { env := [(1, .ptr ⟨g0, 1, 0⟩ 0), (9, .sl true [.agg dTc]), (10, dN 1), (11, dN k), (3, .own ⟨a, i, 0⟩ 0)], σ := [(⟨g0, 1, 0⟩, .box 30 p0c), (⟨a, i, 0⟩, .arr 25 3 [])] } s) 1 ?_ ?_
  · refine ⟨0, gn, 0, Nat.zero_le _, rfl, hn, le_of ?_⟩
    simp only [go_sem, hn, Ne.symm hn]
    first | exact rfl | exact ⟨rfl, rfl⟩ | trivial
  · rintro m s ⟨k, a, i, hk, rfl, ha, hle⟩
    refine awp_keep hle ?_
    clear hle
    refine awp_seq_k (fun K5 hK5 => ?_)
    by_cases hlt : k < 1
    · have hlt' : (k : Int) < ((1 : Nat) : Int) := by omega
      refine awp_plain 1 (by kernel_rfl) rfl (fun g3 hg3 => ?_)
      simp only [go_sem, hlt', decide_true]
      refine hK5 _ ?_
      refine awp_seq_k (fun K6 hK6 => ?_)
      refine awp_t rfl ?_
      refine awp_skip ?_
      refine hK6 _ ?_
      refine awp_seq_k (fun K7 hK7 => ?_)
      refine awp_block ?_
      refine awp_seq_k (fun K8 hK8 => ?_)
      refine awp_plain 4 (by kernel_rfl) rfl (fun g4 hg4 => ?_)
      simp only [go_sem, one_get k hlt]
      refine hK8 _ ?_
      refine awp_seq_k (fun K9 hK9 => ?_)
      have hn4_a : g4 ≠ a := fresh_g hg4 i 0 (by simp [go_sem, Ne.symm ha])
      have hn4_g0 : g4 ≠ g0 := fresh_g hg4 1 0 (by simp [go_sem])
      refine awp_any 9 (by kernel_rfl) (by kernel_rfl) rfl (fun g5 hg5 ops5 KR5 hops5 hKR5 => ?_)
      refine qrun_eval 3 hops5 ?_
      simp only [go_sem, Ne.symm hn4_a, Ne.symm hn4_g0]
      refine qrun_pure hops5 rfl rfl rfl (formals_none _ _) (CoL.refl _) rfl ?_
      refine qrun_eval 2 hops5 ?_
      simp only [go_sem, Ne.symm hn4_a, Ne.symm hn4_g0]
      refine qrun_pure hops5 rfl rfl rfl (params_none _ _) (CoL.refl _) rfl ?_
      refine qrun_eval 1 hops5 ?_
      simp only [go_sem]
      refine qrun_pure hops5 rfl rfl rfl (concat_none _ _) (CoL.refl _) rfl ?_
      refine qrun_last 0 hops5 ?_
      simp only [go_sem]
      refine aops_eval 0 hops5 ?_
      simp only [go_sem]
      refine aops_app hops5 rfl rfl rfl rfl rfl es23 sz25 by25 ze25 rfl (by decide) ?_
      simp only [go_sem, Ne.symm ha, hn4_a]
      first | refine ⟨⟨by omega, by omega⟩, ?_⟩ | skip
      refine aops_last 1 hops5 ?_
      simp only [go_sem]
      refine hKR5 _ ?_
      refine hK9 _ ?_
      refine awp_seq_k (fun K10 hK10 => ?_)
      refine awp_seq_k (fun K11 hK11 => ?_)
      have hn5_g0 : g5 ≠ g0 := fresh_g hg5 1 0 (by simp [go_sem, hn4_g0])
      refine awp_plain 4 (by kernel_rfl) rfl (fun g6 hg6 => ?_)
      simp only [go_sem, Ne.symm hn4_g0]
      refine hK11 _ ?_
      refine awp_block ?_
      refine awp_loop (fun m s => m = 0 ∧ Le { env := [(1, .ptr ⟨g0, 1, 0⟩ 0), (9, .sl true [.agg dTc]), (10, dN 1), (11, dN k), (3, .own ⟨g5, 24, 0⟩ 0), (5, .ptr ⟨g4, 5, 0⟩ 0), (27, dN 0), (28, dN 0)], σ := [(⟨g0, 1, 0⟩, .box 30 p0c), (⟨g4, 5, 0⟩, .box 48 dTc), (⟨g5, 24, 0⟩, .arr 25 3 [])] } s) 0 ?_ ?_
      · refine ⟨rfl, le_of ?_⟩
        simp only [go_sem, hn4_g0, Ne.symm hn4_g0, hn5_g0, Ne.symm hn5_g0]
        first | exact rfl | exact ⟨rfl, rfl⟩ | trivial
      · rintro m s ⟨rfl, hle⟩
        refine awp_keep hle ?_
        clear hle
        refine awp_seq_k (fun K12 hK12 => ?_)
        refine awp_plain 1 (by kernel_rfl) rfl (fun g7 hg7 => ?_)
        simp only [go_sem, show (((0 : Nat) : Int) < ((0 : Nat) : Int)) = False from eq_false (by decide), decide_false]
        refine hK12 _ ?_
        refine awp_seq_k (fun K13 hK13 => ?_)
        refine awp_f rfl ?_
        refine awp_exit ?_
        refine hK10 _ ?_
        refine awp_seq_k (fun K14 hK14 => ?_)
        refine awp_plain 3 (by kernel_rfl) rfl (fun g11 hg11 => ?_)
        simp only [go_sem, show ((1 : Int) = 3) = False from eq_false (by decide), decide_false, Ne.symm hn4_g0]
        refine hK14 _ ?_
        refine awp_f rfl ?_
        refine awp_skip ?_
        refine hK7 _ ?_
        refine awp_plain 2 (by kernel_rfl) rfl (fun g13 hg13 => ?_)
        simp only [go_sem]
        try simp (disch := omega) only [wrapN]
        refine ⟨_, ?_, k + 1, g5, 24, hlt, rfl, hn5_g0, le_of ?_⟩
        · omega
        simp only [go_sem, hn4_g0, hn5_g0, Ne.symm hn5_g0]
        first | exact rfl | exact ⟨rfl, rfl⟩ | trivial
    · have : k = 1 := by omega
      subst this
      refine awp_plain 1 (by kernel_rfl) rfl (fun g3 hg3 => ?_)
      simp only [go_sem, show (((1 : Nat) : Int) < ((1 : Nat) : Int)) = False from eq_false (by decide), decide_false]
      refine hK5 _ ?_
      refine awp_seq_k (fun K15 hK15 => ?_)
      refine awp_f rfl ?_
      refine awp_exit ?_
      refine hK3 _ ?_
      refine awp_seq_k (fun K16 hK16 => ?_)
      refine awp_ops (by kernel_rfl) rfl (fun g14 hg14 ops14 KR14 hops14 hKR14 => ?_)
      refine aops_eval 3 hops14 ?_
      simp only [go_sem, ha]
      refine aops_pure hops14 rfl rfl rfl (body_e0 _ _) (CoL.refl _) ?_
      refine aops_app hops14 rfl rfl rfl rfl rfl es23 sz25 by25 ze25 rfl (by decide) ?_
      simp only [go_sem, Ne.symm ha]
      first | refine ⟨⟨by omega, by omega⟩, ?_⟩ | skip
      refine aops_frz ⟨g14, 55, 0⟩ ?_
      simp only [go_sem]
      refine aops_pure hops14 rfl rfl rfl (copies_calls [tT] (by simp) (fun t ht => by rw [List.mem_singleton.1 ht]; exact sm_tT) _ _) (.cons (.inexact _ _) (.cons (.refl _) .nil)) ?_
      refine aops_last 1 hops14 ?_
      simp only [go_sem]
      refine hKR14 _ ?_
      refine hK16 _ ?_
      refine awp_ret ?_
      refine ends_ev rfl ?_
      simp only [go_sem]
      exact Co.refl _
end Go.Proofs.T


namespace Go.Proofs.T
open Go Go.Ab Go.RowKit

/-! ## The types of an expression -/

theorem appGet {α : Type} (f : α → D) (L : List α) (z : D) : (L.map f ++ [z])[L.length]? = some z := by
  rw [List.getElem?_append_right (by simp)]
  simp
theorem appSet {α : Type} (f : α → D) (L : List α) (z y : D) : (L.map f ++ [z]).set L.length y = L.map f ++ [y] := by
  rw [List.set_append_right _ _ (by simp)]
  simp
def bodyP (e : Ex) (k : Nat) : List Ty := ((nodesEx e).take k).flatMap bodyT
theorem bodyP_le (e : Ex) (k : Nat) : (bodyP e k).length ≤ (bodyTys e).length := flat_le bodyT (nodesEx e) k

theorem encTy_eta (t : Ty) : D.agg [.val (.string t.name), .sl false (t.args.map encTy), .val (.int .i64 t.pos)] = encTy t := encTy_fold t
set_option maxRecDepth 100000 in
theorem body_calls (e : Ex) (he : okEx e) (hb : (bodyTys e).length ≤ 400000) (g d : Nat) : ACalls E 90 [encEx e] [] g d (slTy (bodyTys e)) [] := by
  refine acalls_of_awp (fn := Tryz.f90) (N := 28) Tryz.call90 Tryz.func90 rfl rfl (by simp) ?_
  simp only [go_sem]
  refine awp_seq_k (fun K1 hK1 => ?_)
  refine awp_plain 2 (by kernel_rfl) rfl (fun g0 hg0 => ?_)
  simp only [go_sem]
  refine hK1 _ ?_
  refine awp_seq_k (fun K2 hK2 => ?_)
  refine awp_plain 1 (by kernel_rfl) rfl (fun g1 hg1 => ?_)
  simp only [go_sem]
  refine hK2 _ ?_
  refine awp_seq_k (fun K3 hK3 => ?_)
  refine awp_seq_k (fun K4 hK4 => ?_)
  refine awp_ops (by kernel_rfl) rfl (fun g2 hg2 ops2 KR2 hops2 hKR2 => ?_)
  refine aops_eval 1 hops2 ?_
  simp only [go_sem]
  refine aops_pure hops2 rfl rfl rfl (allX_calls e _ _) (.cons (Co.of_eq (by rw [encEx_agg]; rfl)) .nil) ?_
  refine aops_last 0 hops2 ?_
  simp only [go_sem]
  refine hKR2 _ ?_
  refine hK4 _ ?_
  refine awp_block ?_
  refine awp_nil_box ⟨g1, 3, 0⟩ 0 25 3 ?_
  simp only [go_sem]
  intro gn hgn
  have hn : gn ≠ g1 := fresh_g hgn 3 0 (by simp [go_sem])
  have hn0 : gn ≠ g0 := fresh_g hgn 1 0 (by simp [go_sem])
  refine awp_range_k rfl rfl (by decide) ((nodesEx e).map encEx) (fun k σ => ∃ a i, a ≠ g1 ∧ ∀ n o, Ab.get [(⟨g1, 3, 0⟩, .box 23 [.own ⟨a, i, 0⟩ (bodyP e k).length]), (⟨a, i, 0⟩, .arr 25 3 ((bodyP e k).map encTy))] n = some o → Ab.get σ n = some o) ⟨gn, 0, hn, sub_of ?_⟩ (fun n I hY => all1_calls e he n I hY) (fun k hk σ hJ KA hKA => ?_) (fun σ hJ => ?_)
  · simp only [go_sem, hn, Ne.symm hn, Ne.symm hn0, show bodyP e 0 = [] from rfl]
    try trivial
  · have hk' : k < (nodesEx e).length := by simpa using hk
    have hbk := bodyP_le e (k + 1)
    have hnx : bodyP e (k + 1) = bodyP e k ++ bodyT (nodesEx e)[k] := flat_take bodyT hk'
    obtain ⟨a, i, ha, hσ⟩ := hJ
    refine awp_keepT (st' := { env := [(7, encEx (nodesEx e)[k]), (3, .ptr ⟨g1, 3, 0⟩ 0)], σ := [(⟨g1, 3, 0⟩, .box 23 [.own ⟨a, i, 0⟩ (bodyP e k).length]), (⟨a, i, 0⟩, .arr 25 3 ((bodyP e k).map encTy))] }) ⟨leE_spec ?_, hσ⟩ ?_
    · simp only [go_sem, List.getElem_map]
      try trivial
    generalize (nodesEx e)[k] = X at *
    generalize bodyP e k = P at *
    generalize hL : P ++ X.targs = L
    have hlen : L.length ≤ (bodyP e (k + 1)).length := by rw [hnx, ← hL]; unfold bodyT; simp
    have hlen2 : P.length + X.targs.length = L.length := by rw [← hL, List.length_append]
    have hmap : P.map encTy ++ X.targs.map encTy = L.map encTy := by rw [← hL, List.map_append]
    have hLt : (L.length < L.length + 1) = True := eq_true (by omega)
    have hL0 : ((0 : Int) ≤ (L.length : Int)) = True := eq_true (by omega)
    rw [hnx] at hKA
    refine awp_plain 2 (by kernel_rfl) rfl (fun g3 hg3 => ?_)
    simp only [go_sem]
    refine hKA _ (fun KB hKB => ?_)
    refine awp_block ?_
    refine awp_seq_k (fun K5 hK5 => ?_)
    have hn31 : g3 ≠ g1 := fresh_g hg3 3 0 (by simp [go_sem])
    have hn3_a : g3 ≠ a := fresh_g hg3 i 0 (by simp [go_sem, Ne.symm ha])
    have hn3_g1 : g3 ≠ g1 := fresh_g hg3 3 0 (by simp [go_sem])
    refine awp_ops (by kernel_rfl) rfl (fun g4 hg4 ops4 KR4 hops4 hKR4 => ?_)
    refine aops_eval 3 hops4 ?_
    simp only [go_sem, ha, Ne.symm hn3_a, hn3_g1, Ne.symm hn3_g1]
    have hn4_a : g4 ≠ a := fresh_g hg4 i 0 (by simp [go_sem, Ne.symm ha, hn3_a])
    have hn4_g1 : g4 ≠ g1 := fresh_g hg4 3 0 (by simp [go_sem, hn3_g1])
    refine aops_app hops4 rfl rfl rfl rfl rfl es23 sz25 by25 ze25 rfl (by decide) ?_
    simp only [go_sem, Ne.symm ha, okRowsTy, hn3_a]
    first | refine ⟨⟨by omega, by omega⟩, ?_⟩ | skip
    refine aops_last 1 hops4 ?_
    simp only [go_sem, hn3_g1, hn4_g1]
    refine hKR4 _ ?_
    refine hK5 _ ?_
    refine awp_seq_k (fun K6 hK6 => ?_)
    by_cases h3 : X.kind = 3
    · have hnext : P ++ bodyT X = L ++ [X.type] := by rw [← hL]; unfold bodyT; rw [if_pos (.inl h3)]; simp
      simp only [hnext] at hKB
      refine awp_plain 8 (by kernel_rfl) rfl (fun g5 hg5 => ?_)
      simp only [go_sem, h3, decide_true, Ne.symm hn3_g1]
      refine hK6 _ ?_
      refine awp_t rfl ?_
      refine awp_keepT (st' := { env := [(3, .ptr ⟨g1, 3, 0⟩ 0), (4, .ptr ⟨g3, 4, 0⟩ 0)], σ := [(⟨g3, 4, 0⟩, .box 28 (exC X)), (⟨g1, 3, 0⟩, .box 23 [.own ⟨g4, 11, 0⟩ L.length]), (⟨g4, 11, 0⟩, .arr 25 3 (L.map encTy))] }) ⟨leE_spec ?_, sub_of ?_⟩ ?_
      · simp only [go_sem]
        try trivial
      · simp only [go_sem, hn3_g1, Ne.symm hn3_g1, hn4_g1, Ne.symm hn4_g1]
        first | exact ⟨h3.symm, hlen2, hmap⟩ | exact ⟨h5.symm, hlen2, hmap⟩
      refine awp_anyR 5 (by kernel_rfl) (by kernel_rfl) rfl #[true, true, true, true, true, false, false, false, false] (by kernel_rfl) (fun g6 hg6 ops6 KR6 hops6 hKR6 => ?_)
      have hn61 : g6 ≠ g1 := fresh_g hg6 3 0 (by simp [go_sem])
      refine qrun_last 5 hops6 ?_
      simp only [go_sem, exC, hn3_g1, Ne.symm hn3_g1, hn4_g1]
      refine hKR6 _ ?_
      refine aany_one 5 (by kernel_rfl) (by kernel_rfl) ?_
      refine ago_app rfl rfl rfl rfl rfl rfl rfl es23 sz25 by25 ze25 rfl (by decide) ?_
      simp only [go_sem, Ne.symm hn4_g1]
      first | refine ⟨⟨by omega, by omega⟩, ?_⟩ | skip
      refine aany_two 6 8 (by kernel_rfl) (by kernel_rfl) ?_ ?_
      · refine ago_step rfl rfl rfl ?_
        simp only [go_sem, hLt, hL0]
        refine aany_two 7 8 (by kernel_rfl) (by kernel_rfl) ?_ ?_
        · refine ago_step rfl rfl rfl ?_
          simp only [go_sem, appGet, appSet]
          refine aany_one 8 (by kernel_rfl) (by kernel_rfl) ?_
          refine ago_step rfl rfl rfl ?_
          simp only [go_sem, hn3_g1]
          refine aany_done (by kernel_rfl) (by decide) ?_
          refine hKB _ ?_
          refine ⟨g6, 25, hn61, sub_of ?_⟩
          simp only [go_sem, List.length_append, List.length_singleton, hn3_g1]
          try exact ⟨rfl, encTy_eta X.type⟩
        · refine ago_step rfl rfl rfl ?_
          simp only [go_sem, hn3_g1]
          refine aany_one 7 (by kernel_rfl) (by kernel_rfl) ?_
          refine ago_step rfl rfl rfl ?_
          simp only [go_sem, appGet, appSet]
          refine aany_done (by kernel_rfl) (by decide) ?_
          refine hKB _ ?_
          refine ⟨g6, 25, hn61, sub_of ?_⟩
          simp only [go_sem, List.length_append, List.length_singleton, hn3_g1]
          try exact ⟨rfl, encTy_eta X.type⟩
      · refine ago_step rfl rfl rfl ?_
        simp only [go_sem, hn3_g1]
        refine aany_one 6 (by kernel_rfl) (by kernel_rfl) ?_
        refine ago_step rfl rfl rfl ?_
        simp only [go_sem, hLt, hL0]
        refine aany_one 7 (by kernel_rfl) (by kernel_rfl) ?_
        refine ago_step rfl rfl rfl ?_
        simp only [go_sem, appGet, appSet]
        refine aany_done (by kernel_rfl) (by decide) ?_
        refine hKB _ ?_
        refine ⟨g6, 25, hn61, sub_of ?_⟩
        simp only [go_sem, List.length_append, List.length_singleton, hn3_g1]
        try exact ⟨rfl, encTy_eta X.type⟩
    · by_cases h5 : X.kind = 5
      · have hnext : P ++ bodyT X = L ++ [X.type] := by rw [← hL]; unfold bodyT; rw [if_pos (.inr h5)]; simp
        simp only [hnext] at hKB
        refine awp_plain 8 (by kernel_rfl) rfl (fun g5 hg5 => ?_)
        simp only [go_sem, h5, decide_true, decide_false, Ne.symm hn3_g1]
        refine hK6 _ ?_
        refine awp_t rfl ?_
        refine awp_keepT (st' := { env := [(3, .ptr ⟨g1, 3, 0⟩ 0), (4, .ptr ⟨g3, 4, 0⟩ 0)], σ := [(⟨g3, 4, 0⟩, .box 28 (exC X)), (⟨g1, 3, 0⟩, .box 23 [.own ⟨g4, 11, 0⟩ L.length]), (⟨g4, 11, 0⟩, .arr 25 3 (L.map encTy))] }) ⟨leE_spec ?_, sub_of ?_⟩ ?_
        · simp only [go_sem]
          try trivial
        · simp only [go_sem, hn3_g1, Ne.symm hn3_g1, hn4_g1, Ne.symm hn4_g1]
          first | exact ⟨h3.symm, hlen2, hmap⟩ | exact ⟨h5.symm, hlen2, hmap⟩
        refine awp_anyR 5 (by kernel_rfl) (by kernel_rfl) rfl #[true, true, true, true, true, false, false, false, false] (by kernel_rfl) (fun g6 hg6 ops6 KR6 hops6 hKR6 => ?_)
        have hn61 : g6 ≠ g1 := fresh_g hg6 3 0 (by simp [go_sem])
        refine qrun_last 5 hops6 ?_
        simp only [go_sem, exC, hn3_g1, Ne.symm hn3_g1, hn4_g1]
        refine hKR6 _ ?_
        refine aany_one 5 (by kernel_rfl) (by kernel_rfl) ?_
        refine ago_app rfl rfl rfl rfl rfl rfl rfl es23 sz25 by25 ze25 rfl (by decide) ?_
        simp only [go_sem, Ne.symm hn4_g1]
        first | refine ⟨⟨by omega, by omega⟩, ?_⟩ | skip
        refine aany_two 6 8 (by kernel_rfl) (by kernel_rfl) ?_ ?_
        · refine ago_step rfl rfl rfl ?_
          simp only [go_sem, hLt, hL0]
          refine aany_two 7 8 (by kernel_rfl) (by kernel_rfl) ?_ ?_
          · refine ago_step rfl rfl rfl ?_
            simp only [go_sem, appGet, appSet]
            refine aany_one 8 (by kernel_rfl) (by kernel_rfl) ?_
            refine ago_step rfl rfl rfl ?_
            simp only [go_sem, hn3_g1]
            refine aany_done (by kernel_rfl) (by decide) ?_
            refine hKB _ ?_
            refine ⟨g6, 25, hn61, sub_of ?_⟩
            simp only [go_sem, List.length_append, List.length_singleton, hn3_g1]
            try exact ⟨rfl, encTy_eta X.type⟩
          · refine ago_step rfl rfl rfl ?_
            simp only [go_sem, hn3_g1]
            refine aany_one 7 (by kernel_rfl) (by kernel_rfl) ?_
            refine ago_step rfl rfl rfl ?_
            simp only [go_sem, appGet, appSet]
            refine aany_done (by kernel_rfl) (by decide) ?_
            refine hKB _ ?_
            refine ⟨g6, 25, hn61, sub_of ?_⟩
            simp only [go_sem, List.length_append, List.length_singleton, hn3_g1]
            try exact ⟨rfl, encTy_eta X.type⟩
        · refine ago_step rfl rfl rfl ?_
          simp only [go_sem, hn3_g1]
          refine aany_one 6 (by kernel_rfl) (by kernel_rfl) ?_
          refine ago_step rfl rfl rfl ?_
          simp only [go_sem, hLt, hL0]
          refine aany_one 7 (by kernel_rfl) (by kernel_rfl) ?_
          refine ago_step rfl rfl rfl ?_
          simp only [go_sem, appGet, appSet]
          refine aany_done (by kernel_rfl) (by decide) ?_
          refine hKB _ ?_
          refine ⟨g6, 25, hn61, sub_of ?_⟩
          simp only [go_sem, List.length_append, List.length_singleton, hn3_g1]
          try exact ⟨rfl, encTy_eta X.type⟩
      · have hnext : P ++ bodyT X = L := by rw [← hL]; unfold bodyT; rw [if_neg (by rintro (h | h) <;> contradiction)]; simp
        simp only [hnext] at hKB
        refine awp_plain 8 (by kernel_rfl) rfl (fun g5 hg5 => ?_)
        simp only [go_sem, h3, h5, decide_false, Ne.symm hn3_g1]
        refine hK6 _ ?_
        refine awp_f rfl ?_
        refine awp_skip ?_
        refine hKB _ ?_
        refine ⟨g4, 11, hn4_g1, sub_of ?_⟩
        simp only [go_sem, hn3_g1, hn4_g1, Ne.symm hn4_g1]
        exact ⟨hlen2, hmap⟩
  · have hfin : bodyP e ((nodesEx e).map encEx).length = bodyTys e := by unfold bodyP bodyTys; rw [List.length_map, List.take_length]
    rw [hfin] at hJ
    obtain ⟨a, i, ha, hσ⟩ := hJ
    refine hK3 _ ?_
    refine awp_seq_k (fun K7 hK7 => ?_)
    refine awp_keepT (st' := { env := [(3, .ptr ⟨g1, 3, 0⟩ 0)], σ := [(⟨g1, 3, 0⟩, .box 23 [.own ⟨a, i, 0⟩ (bodyTys e).length]), (⟨a, i, 0⟩, .arr 25 3 ((bodyTys e).map encTy))] }) ⟨leE_spec ?_, hσ⟩ ?_
    · simp only [go_sem]
      try trivial
    refine awp_plain 2 (by kernel_rfl) rfl (fun g7 hg7 => ?_)
    simp only [go_sem, ha]
    refine hK7 _ ?_
    refine awp_ret ?_
    refine ret_frz ⟨a, i, 0⟩ ?_
    simp only [go_sem, Ne.symm ha]
    refine ends_ev rfl ?_
    simp only [go_sem]
    exact Co.refl _
end Go.Proofs.T

