/- A part of the proof, under no conditions of its own: A11. -/
import Derived.Test.YtkddeobmfhchfaaDoorA10
namespace Go.Proofs.T
open Go Go.Ab Go.RowKit

def refFm (q : Bool) (a b : Formal) : Bool := (decide (a.name = b.name) && same a.bound b.bound) && (!q || (decide (a.pos = b.pos) && eqTy a.bound b.bound))
def refPa (q : Bool) (a b : Param) : Bool := (decide (a.name = b.name) && same a.type b.type) && (!q || (decide (a.pos = b.pos) && eqTy a.type b.type))
def refSi (q : Bool) (s t : Sig) : Bool := (decide (s.name = t.name) && (allB (refFm q) s.formals t.formals && (allB (refPa q) s.params t.params && same s.result t.result))) && (!q || (decide (s.pos = t.pos) && eqTy s.result t.result))


theorem refFormals_calls (q : Bool) (l r : List Formal) (hl : l.length ≤ 9223372036854775807) (hl2 : ∀ a ∈ l, okFm a) (g d : Nat) : ACalls E 40 [slFm l, slFm r, dB q] [] g d (dB (allB (refFm q) l r)) [] := by
  refine acalls_of_awp (fn := Tryd.f40) (N := 72) Tryd.call40 Tryd.func40 rfl rfl (by simp) ?_
  simp only [go_sem]
  refine awp_seq_k (fun K1 hK1 => ?_)
  refine awp_plain 1 (by kernel_rfl) rfl (fun g0 hg0 => ?_)
  simp only [go_sem]
  refine hK1 _ ?_
  refine awp_seq_k (fun K2 hK2 => ?_)
  refine awp_seq_k (fun K3 hK3 => ?_)
  by_cases hlen : l.length = r.length
  · have hlen' : (l.length : Int) = r.length := by omega
    refine awp_plain 5 (by kernel_rfl) rfl (fun g1 hg1 => ?_)
    simp only [go_sem, hlen']
    refine hK3 _ ?_
    refine awp_f rfl ?_
    refine awp_skip ?_
    refine hK2 _ ?_
    refine awp_seq_k (fun K4 hK4 => ?_)
    refine awp_seq_k (fun K5 hK5 => ?_)
    refine awp_plain 1 (by kernel_rfl) rfl (fun g3 hg3 => ?_)
    simp only [go_sem]
    refine hK5 _ ?_
    refine awp_block ?_
    refine awp_loop (fun m st => ∃ k, k ≤ l.length ∧ m = l.length - k ∧ allB (refFm q) (l.drop k) (r.drop k) = allB (refFm q) l r ∧
        Le { env := [(0, slFm l), (1, slFm r), (2, dB q), (7, dN k)], σ := [] } st) l.length ?_ ?_
    · refine ⟨0, Nat.zero_le _, rfl, rfl, le_of ?_⟩
      simp only [go_sem]
      trivial
    · rintro m st ⟨k, hk, rfl, hc, hle⟩
      refine awp_keep hle ?_
      clear hle
      by_cases hlt : k < l.length
      · have hlt2 : k < r.length := by omega
        rw [dropC _ _ hlt, dropC _ _ hlt2] at hc
        simp only [allB] at hc
        have g1 := getM (f := encFm) hlt
        have g2 := getM (f := encFm) hlt2
        refine awp_seq_k (fun K6 hK6 => ?_)
        refine awp_seq_k (fun K7 hK7 => ?_)
        refine awp_plain 4 (by kernel_rfl) rfl (fun g4 hg4 => ?_)
        simp only [go_sem, hlt]
        refine hK7 _ ?_
        refine awp_t rfl ?_
        refine awp_skip ?_
        refine hK6 _ ?_
        refine awp_seq_k (fun K8 hK8 => ?_)
        refine awp_block ?_
        refine awp_seq_k (fun K9 hK9 => ?_)
        refine awp_seq_k (fun K10 hK10 => ?_)
        by_cases hn : l[k].name = r[k].name
        · refine awp_anyq (by kernel_rfl) rfl (fun g6 hg6 ops6 KR6 hops6 hKR6 => ?_)
          refine qrun_eval 22 hops6 ?_
          simp only [go_sem, hn, decide_true, g1, g2]
          refine qrun_pure hops6 rfl rfl rfl (ref04Same_calls _ _ (hl2 _ (List.getElem_mem hlt)).2 _ _) (CoL.refl _) rfl ?_
          cases hs : same l[k].bound r[k].bound with
          | false =>
            refine qrun_last 2 hops6 ?_
            simp only [go_sem, show decide (cmpTy l[k].bound r[k].bound = 0) = false from hs]
            refine hKR6 _ ?_
            refine hK10 _ ?_
            refine awp_t rfl ?_
            refine awp_seq_k (fun K11 hK11 => ?_)
            refine awp_plain 1 (by kernel_rfl) rfl (fun g7 hg7 => ?_)
            simp only [go_sem]
            refine hK11 _ ?_
            refine awp_ret ?_
            rw [show refFm q l[k] r[k] = false by simp [refFm, hs]] at hc
            rw [Bool.false_and] at hc
            rw [← hc]
            refine ends_ev rfl ?_
            simp only [go_sem]
            exact Co.refl _
          | true =>
            refine qrun_last 2 hops6 ?_
            simp only [go_sem, show decide (cmpTy l[k].bound r[k].bound = 0) = true from hs]
            refine hKR6 _ ?_
            refine hK10 _ ?_
            refine awp_f rfl ?_
            refine awp_skip ?_
            refine hK9 _ ?_
            refine awp_seq_k (fun K12 hK12 => ?_)
            cases q with
            | false =>
              refine awp_anyq (by kernel_rfl) rfl (fun g8 hg8 ops8 KR8 hops8 hKR8 => ?_)
              refine qrun_last 28 hops8 ?_
              simp only [go_sem]
              refine hKR8 _ ?_
              refine hK12 _ ?_
              refine awp_f rfl ?_
              refine awp_skip ?_
              refine hK8 _ ?_
              refine awp_plain 3 (by kernel_rfl) rfl (fun g5 hg5 => ?_)
              simp only [go_sem]
              try simp (disch := omega) only [wrapN]
              rw [show refFm false l[k] r[k] = true by simp [refFm, hs, hn]] at hc
              rw [Bool.true_and] at hc
              refine ⟨_, ?_, k + 1, hlt, rfl, hc, le_of ?_⟩
              · omega
              simp only [go_sem]
              omega
            | true =>
              by_cases hp : l[k].pos = r[k].pos
              · refine awp_anyq (by kernel_rfl) rfl (fun g8 hg8 ops8 KR8 hops8 hKR8 => ?_)
                refine qrun_eval 24 hops8 ?_
                simp only [go_sem, hp, decide_true, g1, g2]
                refine qrun_pure hops8 rfl rfl rfl (ref04Equal_calls _ (hl2 _ (List.getElem_mem hlt)).2 _ _ _) (CoL.refl _) rfl ?_
                cases he : eqTy l[k].bound r[k].bound with
                | true =>
                  refine qrun_last 3 hops8 ?_
                  simp only [go_sem]
                  refine hKR8 _ ?_
                  refine hK12 _ ?_
                  refine awp_f rfl ?_
                  refine awp_skip ?_
                  refine hK8 _ ?_
                  refine awp_plain 3 (by kernel_rfl) rfl (fun g5 hg5 => ?_)
                  simp only [go_sem]
                  try simp (disch := omega) only [wrapN]
                  rw [show refFm true l[k] r[k] = true by simp [refFm, hs, hn, hp, he]] at hc
                  rw [Bool.true_and] at hc
                  refine ⟨_, ?_, k + 1, hlt, rfl, hc, le_of ?_⟩
                  · omega
                  simp only [go_sem]
                  omega
                | false =>
                  refine qrun_last 3 hops8 ?_
                  simp only [go_sem]
                  refine hKR8 _ ?_
                  refine hK12 _ ?_
                  refine awp_t rfl ?_
                  refine awp_seq_k (fun K13 hK13 => ?_)
                  refine awp_plain 1 (by kernel_rfl) rfl (fun g9 hg9 => ?_)
                  simp only [go_sem]
                  refine hK13 _ ?_
                  refine awp_ret ?_
                  rw [show refFm true l[k] r[k] = false by simp [refFm, hs, hn, hp, he]] at hc
                  rw [Bool.false_and] at hc
                  rw [← hc]
                  refine ends_ev rfl ?_
                  simp only [go_sem]
                  exact Co.refl _
              · refine awp_anyq (by kernel_rfl) rfl (fun g8 hg8 ops8 KR8 hops8 hKR8 => ?_)
                refine qrun_last 28 hops8 ?_
                simp only [go_sem, hp, g1, g2]
                refine hKR8 _ ?_
                refine hK12 _ ?_
                refine awp_t rfl ?_
                refine awp_seq_k (fun K14 hK14 => ?_)
                refine awp_plain 1 (by kernel_rfl) rfl (fun g9 hg9 => ?_)
                simp only [go_sem]
                refine hK14 _ ?_
                refine awp_ret ?_
                rw [show refFm true l[k] r[k] = false by simp [refFm, hs, hn, hp]] at hc
                rw [Bool.false_and] at hc
                rw [← hc]
                refine ends_ev rfl ?_
                simp only [go_sem]
                exact Co.refl _
        · refine awp_anyq (by kernel_rfl) rfl (fun g6 hg6 ops6 KR6 hops6 hKR6 => ?_)
          refine qrun_last 25 hops6 ?_
          simp only [go_sem, hn, g1, g2]
          refine hKR6 _ ?_
          refine hK10 _ ?_
          refine awp_t rfl ?_
          refine awp_seq_k (fun K15 hK15 => ?_)
          refine awp_plain 1 (by kernel_rfl) rfl (fun g7 hg7 => ?_)
          simp only [go_sem]
          refine hK15 _ ?_
          refine awp_ret ?_
          rw [show refFm q l[k] r[k] = false by simp [refFm, hn]] at hc
          rw [Bool.false_and] at hc
          rw [← hc]
          refine ends_ev rfl ?_
          simp only [go_sem]
          exact Co.refl _
      · rw [dropN _ _ (by omega), dropN _ _ (by omega)] at hc
        simp only [allB] at hc
        refine awp_seq_k (fun K16 hK16 => ?_)
        refine awp_seq_k (fun K17 hK17 => ?_)
        refine awp_plain 4 (by kernel_rfl) rfl (fun g4 hg4 => ?_)
        simp only [go_sem, hlt]
        refine hK17 _ ?_
        refine awp_f rfl ?_
        refine awp_exit ?_
        refine hK4 _ ?_
        refine awp_seq_k (fun K18 hK18 => ?_)
        refine awp_plain 1 (by kernel_rfl) rfl (fun g10 hg10 => ?_)
        simp only [go_sem]
        refine hK18 _ ?_
        refine awp_ret ?_
        rw [← hc]
        refine ends_ev rfl ?_
        simp only [go_sem]
        exact Co.refl _
  · have hlen' : ¬ (l.length : Int) = r.length := by omega
    refine awp_plain 5 (by kernel_rfl) rfl (fun g1 hg1 => ?_)
    simp only [go_sem, hlen']
    refine hK3 _ ?_
    refine awp_t rfl ?_
    refine awp_seq_k (fun K19 hK19 => ?_)
    refine awp_plain 1 (by kernel_rfl) rfl (fun g2 hg2 => ?_)
    simp only [go_sem]
    refine hK19 _ ?_
    refine awp_ret ?_
    rw [allB_length hlen]
    refine ends_ev rfl ?_
    simp only [go_sem]
    exact Co.refl _

theorem refParams_calls (q : Bool) (l r : List Param) (hl : l.length ≤ 9223372036854775807) (hl2 : ∀ a ∈ l, okPa a) (g d : Nat) : ACalls E 41 [slPa l, slPa r, dB q] [] g d (dB (allB (refPa q) l r)) [] := by
  refine acalls_of_awp (fn := Tryd.f41) (N := 72) Tryd.call41 Tryd.func41 rfl rfl (by simp) ?_
  simp only [go_sem]
  refine awp_seq_k (fun K1 hK1 => ?_)
  refine awp_plain 1 (by kernel_rfl) rfl (fun g0 hg0 => ?_)
  simp only [go_sem]
  refine hK1 _ ?_
  refine awp_seq_k (fun K2 hK2 => ?_)
  refine awp_seq_k (fun K3 hK3 => ?_)
  by_cases hlen : l.length = r.length
  · have hlen' : (l.length : Int) = r.length := by omega
    refine awp_plain 5 (by kernel_rfl) rfl (fun g1 hg1 => ?_)
    simp only [go_sem, hlen']
    refine hK3 _ ?_
    refine awp_f rfl ?_
    refine awp_skip ?_
    refine hK2 _ ?_
    refine awp_seq_k (fun K4 hK4 => ?_)
    refine awp_seq_k (fun K5 hK5 => ?_)
    refine awp_plain 1 (by kernel_rfl) rfl (fun g3 hg3 => ?_)
    simp only [go_sem]
    refine hK5 _ ?_
    refine awp_block ?_
    refine awp_loop (fun m st => ∃ k, k ≤ l.length ∧ m = l.length - k ∧ allB (refPa q) (l.drop k) (r.drop k) = allB (refPa q) l r ∧
        Le { env := [(0, slPa l), (1, slPa r), (2, dB q), (7, dN k)], σ := [] } st) l.length ?_ ?_
    · refine ⟨0, Nat.zero_le _, rfl, rfl, le_of ?_⟩
      simp only [go_sem]
      trivial
    · rintro m st ⟨k, hk, rfl, hc, hle⟩
      refine awp_keep hle ?_
      clear hle
      by_cases hlt : k < l.length
      · have hlt2 : k < r.length := by omega
        rw [dropC _ _ hlt, dropC _ _ hlt2] at hc
        simp only [allB] at hc
        have g1 := getM (f := encPa) hlt
        have g2 := getM (f := encPa) hlt2
        refine awp_seq_k (fun K6 hK6 => ?_)
        refine awp_seq_k (fun K7 hK7 => ?_)
        refine awp_plain 4 (by kernel_rfl) rfl (fun g4 hg4 => ?_)
        simp only [go_sem, hlt]
        refine hK7 _ ?_
        refine awp_t rfl ?_
        refine awp_skip ?_
        refine hK6 _ ?_
        refine awp_seq_k (fun K8 hK8 => ?_)
        refine awp_block ?_
        refine awp_seq_k (fun K9 hK9 => ?_)
        refine awp_seq_k (fun K10 hK10 => ?_)
        by_cases hn : l[k].name = r[k].name
        · refine awp_anyq (by kernel_rfl) rfl (fun g6 hg6 ops6 KR6 hops6 hKR6 => ?_)
          refine qrun_eval 22 hops6 ?_
          simp only [go_sem, hn, decide_true, g1, g2]
          refine qrun_pure hops6 rfl rfl rfl (ref04Same_calls _ _ (hl2 _ (List.getElem_mem hlt)).2 _ _) (CoL.refl _) rfl ?_
          cases hs : same l[k].type r[k].type with
          | false =>
            refine qrun_last 2 hops6 ?_
            simp only [go_sem, show decide (cmpTy l[k].type r[k].type = 0) = false from hs]
            refine hKR6 _ ?_
            refine hK10 _ ?_
            refine awp_t rfl ?_
            refine awp_seq_k (fun K11 hK11 => ?_)
            refine awp_plain 1 (by kernel_rfl) rfl (fun g7 hg7 => ?_)
            simp only [go_sem]
            refine hK11 _ ?_
            refine awp_ret ?_
            rw [show refPa q l[k] r[k] = false by simp [refPa, hs]] at hc
            rw [Bool.false_and] at hc
            rw [← hc]
            refine ends_ev rfl ?_
            simp only [go_sem]
            exact Co.refl _
          | true =>
            refine qrun_last 2 hops6 ?_
            simp only [go_sem, show decide (cmpTy l[k].type r[k].type = 0) = true from hs]
            refine hKR6 _ ?_
            refine hK10 _ ?_
            refine awp_f rfl ?_
            refine awp_skip ?_
            refine hK9 _ ?_
            refine awp_seq_k (fun K12 hK12 => ?_)
            cases q with
            | false =>
              refine awp_anyq (by kernel_rfl) rfl (fun g8 hg8 ops8 KR8 hops8 hKR8 => ?_)
              refine qrun_last 28 hops8 ?_
              simp only [go_sem]
              refine hKR8 _ ?_
              refine hK12 _ ?_
              refine awp_f rfl ?_
              refine awp_skip ?_
              refine hK8 _ ?_
              refine awp_plain 3 (by kernel_rfl) rfl (fun g5 hg5 => ?_)
              simp only [go_sem]
              try simp (disch := omega) only [wrapN]
              rw [show refPa false l[k] r[k] = true by simp [refPa, hs, hn]] at hc
              rw [Bool.true_and] at hc
              refine ⟨_, ?_, k + 1, hlt, rfl, hc, le_of ?_⟩
              · omega
              simp only [go_sem]
              omega
            | true =>
              by_cases hp : l[k].pos = r[k].pos
              · refine awp_anyq (by kernel_rfl) rfl (fun g8 hg8 ops8 KR8 hops8 hKR8 => ?_)
                refine qrun_eval 24 hops8 ?_
                simp only [go_sem, hp, decide_true, g1, g2]
                refine qrun_pure hops8 rfl rfl rfl (ref04Equal_calls _ (hl2 _ (List.getElem_mem hlt)).2 _ _ _) (CoL.refl _) rfl ?_
                cases he : eqTy l[k].type r[k].type with
                | true =>
                  refine qrun_last 3 hops8 ?_
                  simp only [go_sem]
                  refine hKR8 _ ?_
                  refine hK12 _ ?_
                  refine awp_f rfl ?_
                  refine awp_skip ?_
                  refine hK8 _ ?_
                  refine awp_plain 3 (by kernel_rfl) rfl (fun g5 hg5 => ?_)
                  simp only [go_sem]
                  try simp (disch := omega) only [wrapN]
                  rw [show refPa true l[k] r[k] = true by simp [refPa, hs, hn, hp, he]] at hc
                  rw [Bool.true_and] at hc
                  refine ⟨_, ?_, k + 1, hlt, rfl, hc, le_of ?_⟩
                  · omega
                  simp only [go_sem]
                  omega
                | false =>
                  refine qrun_last 3 hops8 ?_
                  simp only [go_sem]
                  refine hKR8 _ ?_
                  refine hK12 _ ?_
                  refine awp_t rfl ?_
                  refine awp_seq_k (fun K13 hK13 => ?_)
                  refine awp_plain 1 (by kernel_rfl) rfl (fun g9 hg9 => ?_)
                  simp only [go_sem]
                  refine hK13 _ ?_
                  refine awp_ret ?_
                  rw [show refPa true l[k] r[k] = false by simp [refPa, hs, hn, hp, he]] at hc
                  rw [Bool.false_and] at hc
                  rw [← hc]
                  refine ends_ev rfl ?_
                  simp only [go_sem]
                  exact Co.refl _
              · refine awp_anyq (by kernel_rfl) rfl (fun g8 hg8 ops8 KR8 hops8 hKR8 => ?_)
                refine qrun_last 28 hops8 ?_
                simp only [go_sem, hp, g1, g2]
                refine hKR8 _ ?_
                refine hK12 _ ?_
                refine awp_t rfl ?_
                refine awp_seq_k (fun K14 hK14 => ?_)
                refine awp_plain 1 (by kernel_rfl) rfl (fun g9 hg9 => ?_)
                simp only [go_sem]
                refine hK14 _ ?_
                refine awp_ret ?_
                rw [show refPa true l[k] r[k] = false by simp [refPa, hs, hn, hp]] at hc
                rw [Bool.false_and] at hc
                rw [← hc]
                refine ends_ev rfl ?_
                simp only [go_sem]
                exact Co.refl _
        · refine awp_anyq (by kernel_rfl) rfl (fun g6 hg6 ops6 KR6 hops6 hKR6 => ?_)
          refine qrun_last 25 hops6 ?_
          simp only [go_sem, hn, g1, g2]
          refine hKR6 _ ?_
          refine hK10 _ ?_
          refine awp_t rfl ?_
          refine awp_seq_k (fun K15 hK15 => ?_)
          refine awp_plain 1 (by kernel_rfl) rfl (fun g7 hg7 => ?_)
          simp only [go_sem]
          refine hK15 _ ?_
          refine awp_ret ?_
          rw [show refPa q l[k] r[k] = false by simp [refPa, hn]] at hc
          rw [Bool.false_and] at hc
          rw [← hc]
          refine ends_ev rfl ?_
          simp only [go_sem]
          exact Co.refl _
      · rw [dropN _ _ (by omega), dropN _ _ (by omega)] at hc
        simp only [allB] at hc
        refine awp_seq_k (fun K16 hK16 => ?_)
        refine awp_seq_k (fun K17 hK17 => ?_)
        refine awp_plain 4 (by kernel_rfl) rfl (fun g4 hg4 => ?_)
        simp only [go_sem, hlt]
        refine hK17 _ ?_
        refine awp_f rfl ?_
        refine awp_exit ?_
        refine hK4 _ ?_
        refine awp_seq_k (fun K18 hK18 => ?_)
        refine awp_plain 1 (by kernel_rfl) rfl (fun g10 hg10 => ?_)
        simp only [go_sem]
        refine hK18 _ ?_
        refine awp_ret ?_
        rw [← hc]
        refine ends_ev rfl ?_
        simp only [go_sem]
        exact Co.refl _
  · have hlen' : ¬ (l.length : Int) = r.length := by omega
    refine awp_plain 5 (by kernel_rfl) rfl (fun g1 hg1 => ?_)
    simp only [go_sem, hlen']
    refine hK3 _ ?_
    refine awp_t rfl ?_
    refine awp_seq_k (fun K19 hK19 => ?_)
    refine awp_plain 1 (by kernel_rfl) rfl (fun g2 hg2 => ?_)
    simp only [go_sem]
    refine hK19 _ ?_
    refine awp_ret ?_
    rw [allB_length hlen]
    refine ends_ev rfl ?_
    simp only [go_sem]
    exact Co.refl _

end Go.Proofs.T

