/- A part of the proof, under no conditions of its own: YA. -/
import Derived.Test.YtjhencaobpihnaaDoorF10
namespace Go.Proofs.T
open Go Go.Ab Go.RowKit

mutual
def count : Ty → Nat → Nat
  | .mk nm xs _, n => countL xs (n + 1 + nm.size / 50)
def countL : List Ty → Nat → Nat
  | [], n => n
  | t :: r, n => if n ≤ 2000 then countL r (count t n) else n
end
theorem count_eq (t : Ty) (n : Nat) : count t n = countL t.args (n + 1 + t.name.size / 50) := by cases t; simp [count]
theorem countL_le {l : List Ty} {n : Nat} (h : 2000 < n) : countL l n = n := by cases l <;> simp [countL]; omega

def big : Nat := 184467440737097518
mutual
theorem count_bound : ∀ (t : Ty) (n : Nat), okTy t → count t n ≤ Nat.max n 2000 + big
  | .mk nm xs p, n, h => by
    simp only [count]
    simp only [okTy] at h
    have h1 : n + 1 + nm.size / 50 ≤ Nat.max n 2000 + big := by
      have : n ≤ Nat.max n 2000 := Nat.le_max_left ..
      unfold big; omega
    have := countL_bound xs (n + 1 + nm.size / 50) (Nat.max n 2000) h.2.2 (Nat.le_max_right ..) h1
    exact this
theorem countL_bound : ∀ (l : List Ty) (n m : Nat), okTys l → 2000 ≤ m → n ≤ m + big → countL l n ≤ m + big
  | [], n, m, _, h2, h => by simpa [countL] using h
  | t :: r, n, m, hk, h2, h => by
    simp only [countL]
    simp only [okTys] at hk
    split
    · rename_i hn
      refine countL_bound r _ m hk.2 h2 ?_
      have := count_bound t n hk.1
      have : Nat.max n 2000 = 2000 := Nat.max_eq_right hn
      omega
    · exact h
end

set_option maxRecDepth 10000 in
theorem count_calls : ∀ (t : Ty), okTy t → ∀ (n g d : Nat), n ≤ 4611686018427387904 → ACalls E 14 [encTy t, dN n] [] g d (dN (count t n)) [] := by
  refine Ty.ind fun t ih => ?_
  intro ht n g d hn
  obtain ⟨hs1, hs2, hs3⟩ := (okTy_iff t).1 ht
  refine acalls_of_awp (fn := Tryd.f14) (N := 32) Tryd.call14 Tryd.func14 rfl rfl (by simp) ?_
  simp only [go_sem]
  refine awp_seq_k (fun K1 hK1 => ?_)
  refine awp_plain 2 (by kernel_rfl) rfl (fun g0 hg0 => ?_)
  simp only [go_sem]
  refine hK1 _ ?_
  refine awp_seq_k (fun K2 hK2 => ?_)
  refine awp_plain 8 (by kernel_rfl) rfl (fun g1 hg1 => ?_)
  simp only [go_sem]
  try simp (disch := omega) only [wrapN, Int.tdiv_eq_ediv_of_nonneg]
  refine hK2 _ ?_
  refine awp_seq_k (fun K3 hK3 => ?_)
  refine awp_seq_k (fun K4 hK4 => ?_)
  refine awp_plain 1 (by kernel_rfl) rfl (fun g2 hg2 => ?_)
  simp only [go_sem]
  refine hK4 _ ?_
  refine awp_block ?_
  refine awp_loop (fun m s => ∃ k n', k ≤ t.args.length ∧ m = t.args.length - k ∧ n' ≤ 4611686018427387904 + big ∧ countL (t.args.drop k) n' = count t n ∧
      Le { env := [(1, dN n'), (2, .ptr ⟨g0, 2, 0⟩ 0), (5, dN k)], σ := [(⟨g0, 2, 0⟩, .box 25 (tyC t))] } s) t.args.length ?_ ?_
  · refine ⟨0, n + 1 + t.name.size / 50, Nat.zero_le _, rfl, by unfold big; omega, by rw [count_eq]; rfl, le_of ?_⟩
    simp only [go_sem, tyC]
    omega
  · rintro m s ⟨k, n', hk, rfl, hn', hc, hle⟩
    refine awp_keep hle ?_
    clear hle
    by_cases hlt : k < t.args.length
    · by_cases hle : (n' : Int) ≤ 2000
      · refine awp_seq_k (fun K5 hK5 => ?_)
        refine awp_seq_k (fun K6 hK6 => ?_)
        refine awp_plain 9 (by kernel_rfl) rfl (fun g3 hg3 => ?_)
        simp only [go_sem, tyC, hlt, hle]
        refine hK6 _ ?_
        refine awp_t rfl ?_
        refine awp_skip ?_
        refine hK5 _ ?_
        refine awp_seq_k (fun K7 hK7 => ?_)
        refine awp_block ?_
        refine awp_ops (by kernel_rfl) rfl (fun g5 hg5 ops5 KR5 hops5 hKR5 => ?_)
        refine aops_eval 6 hops5 ?_
        simp only [go_sem, getM hlt]
        refine aops_pure hops5 rfl rfl rfl (ih _ (List.getElem_mem _) (hs3 _ (List.getElem_mem _)) n' _ _ (by omega)) (CoL.refl _) ?_
        refine aops_last 1 hops5 ?_
        simp only [go_sem]
        refine hKR5 _ ?_
        refine hK7 _ ?_
        refine awp_plain 3 (by kernel_rfl) rfl (fun g4 hg4 => ?_)
        simp only [go_sem]
        try simp (disch := omega) only [wrapN]
        have e : countL (t.args.drop k) n' = countL (t.args.drop (k + 1)) (count t.args[k] n') := by
          rw [List.drop_eq_getElem_cons hlt]; simp only [countL]; rw [if_pos (by omega)]
        have e2 := count_bound t.args[k] n' (hs3 _ (List.getElem_mem _))
        have e3 : Nat.max n' 2000 ≤ 4611686018427387904 := Nat.max_le.2 ⟨by omega, by omega⟩
        refine ⟨_, ?_, k + 1, count t.args[k] n', hlt, rfl, ?_, by rw [← e]; exact hc, le_of ?_⟩
        · omega
        · omega
        simp only [go_sem, tyC]
        omega
      · refine awp_seq_k (fun K8 hK8 => ?_)
        refine awp_seq_k (fun K9 hK9 => ?_)
        refine awp_plain 9 (by kernel_rfl) rfl (fun g3 hg3 => ?_)
        simp only [go_sem, tyC, hlt, hle]
        refine hK9 _ ?_
        rw [countL_le (by omega)] at hc
        subst hc
        refine awp_f rfl ?_
        refine awp_exit ?_
        refine hK3 _ ?_
        refine awp_seq_k (fun K10 hK10 => ?_)
        refine awp_plain 2 (by kernel_rfl) rfl (fun g6 hg6 => ?_)
        simp only [go_sem]
        refine hK10 _ ?_
        refine awp_ret ?_
        refine ends_ev rfl ?_
        simp only [go_sem]
        exact Co.refl _
    · refine awp_seq_k (fun K11 hK11 => ?_)
      refine awp_seq_k (fun K12 hK12 => ?_)
      refine awp_plain 9 (by kernel_rfl) rfl (fun g3 hg3 => ?_)
      simp only [go_sem, tyC, hlt]
      refine hK12 _ ?_
      rw [List.drop_eq_nil_of_le (by omega)] at hc
      simp only [countL] at hc
      subst hc
      refine awp_f rfl ?_
      refine awp_exit ?_
      refine hK3 _ ?_
      refine awp_seq_k (fun K13 hK13 => ?_)
      refine awp_plain 2 (by kernel_rfl) rfl (fun g6 hg6 => ?_)
      simp only [go_sem]
      refine hK13 _ ?_
      refine awp_ret ?_
      refine ends_ev rfl ?_
      simp only [go_sem]
      exact Co.refl _
end Go.Proofs.T


namespace Go.Proofs.T
open Go Go.Ab Go.RowKit

/-! ## Comparing -/

def cmpL : List UInt8 → List UInt8 → Int
  | [], [] => 0
  | [], _ :: _ => -1
  | _ :: _, [] => 1
  | a :: x, b :: y => if a < b then -1 else if b < a then 1 else cmpL x y

def cmpS (a b : Str) : Int := cmpL a.data.toList b.data.toList

theorem cmpL_zero : ∀ {x y : List UInt8}, cmpL x y = 0 ↔ x = y
  | [], [] => by simp [cmpL]
  | [], _ :: _ => by simp [cmpL]
  | _ :: _, [] => by simp [cmpL]
  | a :: x, b :: y => by
    simp only [cmpL]
    split
    · rename_i h; simp; rintro rfl; exact absurd h (by simp)
    · split
      · rename_i h; simp; rintro rfl; exact absurd h (by simp)
      · rename_i h1 h2
        have : a = b := by
          apply UInt8.le_antisymm
          · exact UInt8.not_lt.1 h2
          · exact UInt8.not_lt.1 h1
        subst this
        simp [cmpL_zero (x := x) (y := y)]

theorem cmpS_zero {a b : Str} : cmpS a b = 0 ↔ a = b := by
  unfold cmpS
  rw [cmpL_zero, Array.toList_inj]
  constructor
  · intro h; cases a; cases b; simp_all
  · rintro rfl; rfl

theorem str_get {s : Str} {k : Nat} (h : k < s.size) : s[k]? = some (s.data.toList[k]'h) := by
  have : s[k]? = some s[k] := getElem?_pos s k h
  rw [this]; rfl

theorem cmpL_less : ∀ (x y : List UInt8), Op.bytesLess x y = decide (cmpL x y = -1)
  | [], [] => by simp [Op.bytesLess, cmpL]
  | [], _ :: _ => by simp [Op.bytesLess, cmpL]
  | _ :: _, [] => by simp [Op.bytesLess, cmpL]
  | a :: x, b :: y => by
    simp only [Op.bytesLess, cmpL]
    by_cases h1 : a < b
    · simp [h1]
    · by_cases h2 : b < a
      · simp [h1, h2]; intro h; subst h; simp at h2
      · have : a = b := UInt8.le_antisymm (UInt8.not_lt.1 h2) (UInt8.not_lt.1 h1)
        subst this
        simp [h1, cmpL_less x y]

theorem cmpL_range : ∀ (x y : List UInt8), cmpL x y = -1 ∨ cmpL x y = 0 ∨ cmpL x y = 1
  | [], [] => by simp [cmpL]
  | [], _ :: _ => by simp [cmpL]
  | _ :: _, [] => by simp [cmpL]
  | a :: x, b :: y => by
    simp only [cmpL]
    split
    · simp
    · split
      · simp
      · exact cmpL_range x y

theorem cmpS_less (a b : Str) : Op.bytesLess a.toList b.toList = decide (cmpS a b = -1) := by
  rw [cmpL_less, ByteArray.toList_eq, ByteArray.toList_eq]; rfl

end Go.Proofs.T

