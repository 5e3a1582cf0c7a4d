/- A part of the proof, under no conditions of its own: A2. -/
import Derived.Test.YtkddeobmfhchfaaDoorA1
namespace Go.Proofs.T
open Go Go.Ab Go.RowKit

/-! ## Comparing -/

def cmpL : List UInt8 → List UInt8 → Int
  | [], [] => 0
  | [], _ :: _ => -1
  | _ :: _, [] => 1
  | a :: x, b :: y => if a < b then -1 else if b < a then 1 else cmpL x y

def cmpS (a b : Str) : Int := cmpL a.data.toList b.data.toList

theorem cmpL_zero : ∀ {x y : List UInt8}, cmpL x y = 0 ↔ x = y
  | [], [] => by simp [cmpL]
  | [], _ :: _ => by simp [cmpL]
  | _ :: _, [] => by simp [cmpL]
  | a :: x, b :: y => by
    simp only [cmpL]
    split
    · rename_i h; simp; rintro rfl; exact absurd h (by simp)
    · split
      · rename_i h; simp; rintro rfl; exact absurd h (by simp)
      · rename_i h1 h2
        have : a = b := by
          apply UInt8.le_antisymm
          · exact UInt8.not_lt.1 h2
          · exact UInt8.not_lt.1 h1
        subst this
        simp [cmpL_zero (x := x) (y := y)]

theorem cmpS_zero {a b : Str} : cmpS a b = 0 ↔ a = b := by
  unfold cmpS
  rw [cmpL_zero, Array.toList_inj]
  constructor
  · intro h; cases a; cases b; simp_all
  · rintro rfl; rfl

theorem str_get {s : Str} {k : Nat} (h : k < s.size) : s[k]? = some (s.data.toList[k]'h) := by
  have : s[k]? = some s[k] := getElem?_pos s k h
  rw [this]; rfl

theorem cmpL_less : ∀ (x y : List UInt8), Op.bytesLess x y = decide (cmpL x y = -1)
  | [], [] => by simp [Op.bytesLess, cmpL]
  | [], _ :: _ => by simp [Op.bytesLess, cmpL]
  | _ :: _, [] => by simp [Op.bytesLess, cmpL]
  | a :: x, b :: y => by
    simp only [Op.bytesLess, cmpL]
    by_cases h1 : a < b
    · simp [h1]
    · by_cases h2 : b < a
      · simp [h1, h2]; intro h; subst h; simp at h2
      · have : a = b := UInt8.le_antisymm (UInt8.not_lt.1 h2) (UInt8.not_lt.1 h1)
        subst this
        simp [h1, cmpL_less x y]

theorem cmpL_range : ∀ (x y : List UInt8), cmpL x y = -1 ∨ cmpL x y = 0 ∨ cmpL x y = 1
  | [], [] => by simp [cmpL]
  | [], _ :: _ => by simp [cmpL]
  | _ :: _, [] => by simp [cmpL]
  | a :: x, b :: y => by
    simp only [cmpL]
    split
    · simp
    · split
      · simp
      · exact cmpL_range x y

theorem cmpS_less (a b : Str) : Op.bytesLess a.toList b.toList = decide (cmpS a b = -1) := by
  rw [cmpL_less, ByteArray.toList_eq, ByteArray.toList_eq]; rfl

set_option maxRecDepth 10000 in
theorem compareS_calls (a b : Str) (ha : a.size ≤ 9223372036854775807) (g d : Nat) :
    ACalls E 85 [encS a, encS b] [] g d (dI (cmpS a b)) [] := by
  refine acalls_of_awp (fn := Tryd.f85) (N := 42) Tryd.call85 Tryd.func85 rfl rfl (by simp) ?_
  simp only [go_sem]
  refine awp_seq_k (fun K1 hK1 => ?_)
  refine awp_plain 1 (by kernel_rfl) rfl (fun g0 hg0 => ?_)
  simp only [go_sem]
  refine hK1 _ ?_
  refine awp_seq_k (fun K2 hK2 => ?_)
  refine awp_seq_k (fun K3 hK3 => ?_)
  refine awp_plain 1 (by kernel_rfl) rfl (fun g1 hg1 => ?_)
  simp only [go_sem]
  refine hK3 _ ?_
  refine awp_block ?_
  refine awp_loop (fun m s => ∃ k, k ≤ a.size ∧ k ≤ b.size ∧ m = a.size - k ∧ cmpL (a.data.toList.drop k) (b.data.toList.drop k) = cmpS a b ∧
      Le { env := [(0, encS a), (1, encS b), (5, dN k)], σ := [] } s) a.size ?_ ?_
  · refine ⟨0, Nat.zero_le _, Nat.zero_le _, rfl, rfl, le_of ?_⟩
    simp only [go_sem]
    trivial
  · rintro m s ⟨k, hka, hkb, rfl, hc, hle⟩
    refine awp_keep hle ?_
    clear hle
    by_cases ha : k < a.size
    · by_cases hb : k < b.size
      · rw [List.drop_eq_getElem_cons (show k < a.data.toList.length from ha), List.drop_eq_getElem_cons (show k < b.data.toList.length from hb)] at hc
        simp only [cmpL] at hc
        refine awp_seq_k (fun K4 hK4 => ?_)
        refine awp_seq_k (fun K5 hK5 => ?_)
        refine awp_plain 10 (by kernel_rfl) rfl (fun g2 hg2 => ?_)
        simp only [go_sem, ha, hb]
        refine hK5 _ ?_
        refine awp_t rfl ?_
        refine awp_skip ?_
        refine hK4 _ ?_
        refine awp_seq_k (fun K6 hK6 => ?_)
        refine awp_block ?_
        refine awp_seq_k (fun K7 hK7 => ?_)
        refine awp_seq_k (fun K8 hK8 => ?_)
        have h0 : (0 : Int) ≤ k := by omega
        by_cases h1 : a.data.toList[k] < b.data.toList[k]
        · rw [if_pos h1] at hc
          have h1' : (a.data.toList[k].toNat : Int) < b.data.toList[k].toNat := by exact_mod_cast UInt8.lt_iff_toNat_lt.1 h1
          refine awp_anyq (by kernel_rfl) rfl (fun g4 hg4 ops4 KR4 hops4 hKR4 => ?_)
          refine qrun_last 7 hops4 ?_
          simp only [go_sem, h0, Int.toNat_natCast, str_get ha, str_get hb, h1']
          refine hKR4 _ ?_
          refine hK8 _ ?_
          refine awp_t rfl ?_
          refine awp_seq_k (fun K9 hK9 => ?_)
          refine awp_plain 1 (by kernel_rfl) rfl (fun g5 hg5 => ?_)
          simp only [go_sem]
          refine hK9 _ ?_
          refine awp_ret ?_
          rw [← hc]
          refine ends_ev rfl ?_
          simp only [go_sem]
          exact Co.refl _
        · rw [if_neg h1] at hc
          have h1' : ¬ (a.data.toList[k].toNat : Int) < b.data.toList[k].toNat := fun h => h1 (UInt8.lt_iff_toNat_lt.2 (by exact_mod_cast h))
          refine awp_anyq (by kernel_rfl) rfl (fun g4 hg4 ops4 KR4 hops4 hKR4 => ?_)
          refine qrun_last 7 hops4 ?_
          simp only [go_sem, h0, Int.toNat_natCast, str_get ha, str_get hb, h1']
          refine hKR4 _ ?_
          refine hK8 _ ?_
          refine awp_f rfl ?_
          refine awp_skip ?_
          refine hK7 _ ?_
          refine awp_seq_k (fun K10 hK10 => ?_)
          by_cases h2 : b.data.toList[k] < a.data.toList[k]
          · rw [if_pos h2] at hc
            have h2' : (b.data.toList[k].toNat : Int) < a.data.toList[k].toNat := by exact_mod_cast UInt8.lt_iff_toNat_lt.1 h2
            refine awp_anyq (by kernel_rfl) rfl (fun g6 hg6 ops6 KR6 hops6 hKR6 => ?_)
            refine qrun_last 7 hops6 ?_
            simp only [go_sem, h0, Int.toNat_natCast, str_get ha, str_get hb, h2']
            refine hKR6 _ ?_
            refine hK10 _ ?_
            refine awp_t rfl ?_
            refine awp_seq_k (fun K11 hK11 => ?_)
            refine awp_plain 1 (by kernel_rfl) rfl (fun g7 hg7 => ?_)
            simp only [go_sem]
            refine hK11 _ ?_
            refine awp_ret ?_
            rw [← hc]
            refine ends_ev rfl ?_
            simp only [go_sem]
            exact Co.refl _
          · rw [if_neg h2] at hc
            have h2' : ¬ (b.data.toList[k].toNat : Int) < a.data.toList[k].toNat := fun h => h2 (UInt8.lt_iff_toNat_lt.2 (by exact_mod_cast h))
            refine awp_anyq (by kernel_rfl) rfl (fun g6 hg6 ops6 KR6 hops6 hKR6 => ?_)
            refine qrun_last 7 hops6 ?_
            simp only [go_sem, h0, Int.toNat_natCast, str_get ha, str_get hb, h2']
            refine hKR6 _ ?_
            refine hK10 _ ?_
            refine awp_f rfl ?_
            refine awp_skip ?_
            refine hK6 _ ?_
            refine awp_plain 3 (by kernel_rfl) rfl (fun g3 hg3 => ?_)
            simp only [go_sem]
            try simp (disch := omega) only [wrapN]
            refine ⟨_, ?_, k + 1, ha, hb, rfl, hc, le_of ?_⟩
            · omega
            simp only [go_sem]
            omega
      · have : k = b.size := by omega
        subst this
        rw [List.drop_eq_getElem_cons (show b.size < a.data.toList.length from ha), List.drop_eq_nil_of_le (show b.data.toList.length ≤ b.size from Nat.le_refl _)] at hc
        simp only [cmpL] at hc
        have h3 : ¬ a.size < b.size := by omega
        have h4 : b.size < a.size := ha
        refine awp_seq_k (fun K12 hK12 => ?_)
        refine awp_seq_k (fun K13 hK13 => ?_)
        refine awp_plain 10 (by kernel_rfl) rfl (fun g2 hg2 => ?_)
        simp only [go_sem, ha, hb]
        refine hK13 _ ?_
        refine awp_f rfl ?_
        refine awp_exit ?_
        refine hK2 _ ?_
        refine awp_seq_k (fun K14 hK14 => ?_)
        refine awp_seq_k (fun K15 hK15 => ?_)
        refine awp_plain 5 (by kernel_rfl) rfl (fun g8 hg8 => ?_)
        simp only [go_sem, h3]
        refine hK15 _ ?_
        refine awp_f rfl ?_
        refine awp_skip ?_
        refine hK14 _ ?_
        refine awp_seq_k (fun K16 hK16 => ?_)
        refine awp_seq_k (fun K17 hK17 => ?_)
        refine awp_plain 5 (by kernel_rfl) rfl (fun g10 hg10 => ?_)
        simp only [go_sem, h4]
        refine hK17 _ ?_
        refine awp_t rfl ?_
        refine awp_seq_k (fun K18 hK18 => ?_)
        refine awp_plain 1 (by kernel_rfl) rfl (fun g11 hg11 => ?_)
        simp only [go_sem]
        refine hK18 _ ?_
        refine awp_ret ?_
        rw [← hc]
        refine ends_ev rfl ?_
        simp only [go_sem]
        exact Co.refl _
    · have : k = a.size := by omega
      subst this
      rw [List.drop_eq_nil_of_le (show a.data.toList.length ≤ a.size from Nat.le_refl _)] at hc
      refine awp_seq_k (fun K19 hK19 => ?_)
      refine awp_seq_k (fun K20 hK20 => ?_)
      refine awp_plain 10 (by kernel_rfl) rfl (fun g2 hg2 => ?_)
      simp only [go_sem, ha]
      refine hK20 _ ?_
      refine awp_f rfl ?_
      refine awp_exit ?_
      refine hK2 _ ?_
      refine awp_seq_k (fun K21 hK21 => ?_)
      refine awp_seq_k (fun K22 hK22 => ?_)
      by_cases hb : a.size < b.size
      · rw [List.drop_eq_getElem_cons (show a.size < b.data.toList.length from hb)] at hc
        simp only [cmpL] at hc
        refine awp_plain 5 (by kernel_rfl) rfl (fun g8 hg8 => ?_)
        simp only [go_sem, hb]
        refine hK22 _ ?_
        refine awp_t rfl ?_
        refine awp_seq_k (fun K23 hK23 => ?_)
        refine awp_plain 1 (by kernel_rfl) rfl (fun g9 hg9 => ?_)
        simp only [go_sem]
        refine hK23 _ ?_
        refine awp_ret ?_
        rw [← hc]
        refine ends_ev rfl ?_
        simp only [go_sem]
        exact Co.refl _
      · have h4 : ¬ b.size < a.size := by omega
        rw [List.drop_eq_nil_of_le (show b.data.toList.length ≤ a.size from (by show b.size ≤ a.size; omega))] at hc
        simp only [cmpL] at hc
        refine awp_plain 5 (by kernel_rfl) rfl (fun g8 hg8 => ?_)
        simp only [go_sem, hb]
        refine hK22 _ ?_
        refine awp_f rfl ?_
        refine awp_skip ?_
        refine hK21 _ ?_
        refine awp_seq_k (fun K24 hK24 => ?_)
        refine awp_seq_k (fun K25 hK25 => ?_)
        refine awp_plain 5 (by kernel_rfl) rfl (fun g10 hg10 => ?_)
        simp only [go_sem, h4]
        refine hK25 _ ?_
        refine awp_f rfl ?_
        refine awp_skip ?_
        refine hK24 _ ?_
        refine awp_seq_k (fun K26 hK26 => ?_)
        refine awp_plain 1 (by kernel_rfl) rfl (fun g12 hg12 => ?_)
        simp only [go_sem]
        refine hK26 _ ?_
        refine awp_ret ?_
        rw [← hc]
        refine ends_ev rfl ?_
        simp only [go_sem]
        exact Co.refl _

end Go.Proofs.T

