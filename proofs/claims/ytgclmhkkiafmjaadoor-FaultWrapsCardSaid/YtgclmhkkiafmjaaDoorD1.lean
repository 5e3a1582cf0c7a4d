/- A part of the proof, under no conditions of its own: D1. -/
import Derived.Test.YtgclmhkkiafmjaaDoorF10
import Derived.Test.YtgclmhkkiafmjaaDoorXH
import Derived.Test.YtgclmhkkiafmjaaDoorXD
namespace Go.Proofs.T
open Go Go.Ab Go.RowKit

/-! ## Errors -/

structure Err where
  nil : Bool
  parts : List Str
  code : Int
  at' : Int
  fault : Bool
def erC (e : Err) : List D := [.val (.bool e.nil), .sl false (e.parts.map encS), .val (.int .i64 e.code), .val (.int .i64 e.at'), .val (.bool e.fault)]
def encEr (e : Err) : D := .agg (erC e)
def okI (n : Int) : Prop := -9223372036854775808 ≤ n ∧ n ≤ 9223372036854775807
def okEr (e : Err) : Prop := (e.parts.length ≤ 9223372036854775807 ∧ ∀ s ∈ e.parts, s.size ≤ 9223372036854775807) ∧ okI e.code ∧ okI e.at'

/-- The innermost error, and what lies around it, from the outside to the inside. -/
def baseE (f : Bool) (c a : Int) : D := if f = true then .iface 50 (.agg [dI c, dI a]) else .iface 30 (dI c)
def chain (f : Bool) (c a : Int) : List Str → D
  | [] => baseE f c a
  | p :: r => .iface 59 (.agg [encS p, chain f c a r])
def errD (e : Err) : D := if e.nil = true then .val .nilIface else chain e.fault e.code e.at' e.parts.reverse

def fewL (l : List Str) : Bool := l.all fun s => decide (s.size ≤ 50)
def fewEr (e : Err) : Bool := fewL e.parts && decide (e.parts.length ≤ 20) && decide (-1152921504606846976 < e.at') && decide (e.at' < 1152921504606846976)

theorem newF_calls (c a : Int) (g d : Nat) : ACalls E 22 [dI c, dI a] [] g d (.iface 50 (.agg [dI c, dI a])) [] := by
  refine acalls_of_awp (fn := Tryd.f22) (N := 9) Tryd.call22 Tryd.func22 rfl rfl (by simp) ?_
  simp only [go_sem]
  refine awp_seq_k (fun K1 hK1 => ?_)
  refine awp_plain 1 (by kernel_rfl) rfl (fun g0 hg0 => ?_)
  simp only [go_sem]
  refine hK1 _ ?_
  refine awp_seq_k (fun K2 hK2 => ?_)
  refine awp_plain 5 (by kernel_rfl) rfl (fun g1 hg1 => ?_)
  simp only [go_sem]
  refine hK2 _ ?_
  refine awp_ret ?_
  refine ends_ev rfl ?_
  simp only [go_sem]
  exact Co.refl _
theorem in_nil (p : Str) (g d : Nat) : ACalls E 19 [encS p, .val .nilIface] [] g d (.val .nilIface) [] := by
  refine acalls_of_awp (fn := Tryd.f19) (N := 11) Tryd.call19 Tryd.func19 rfl rfl (by simp) ?_
  simp only [go_sem]
  refine awp_seq_k (fun K1 hK1 => ?_)
  refine awp_plain 1 (by kernel_rfl) rfl (fun g0 hg0 => ?_)
  simp only [go_sem]
  refine hK1 _ ?_
  refine awp_seq_k (fun K2 hK2 => ?_)
  refine awp_seq_k (fun K3 hK3 => ?_)
  refine awp_plain 2 (by kernel_rfl) rfl (fun g1 hg1 => ?_)
  simp only [go_sem]
  refine hK3 _ ?_
  refine awp_t rfl ?_
  refine awp_seq_k (fun K4 hK4 => ?_)
  refine awp_plain 1 (by kernel_rfl) rfl (fun g2 hg2 => ?_)
  simp only [go_sem]
  refine hK4 _ ?_
  refine awp_ret ?_
  refine ends_ev rfl ?_
  simp only [go_sem]
  exact Co.refl _
theorem in_some (p : Str) (t : TypeId) (x : D) (g d : Nat) : ACalls E 19 [encS p, .iface t x] [] g d (.iface 59 (.agg [encS p, .iface t x])) [] := by
  refine acalls_of_awp (fn := Tryd.f19) (N := 11) Tryd.call19 Tryd.func19 rfl rfl (by simp) ?_
  simp only [go_sem]
  refine awp_seq_k (fun K1 hK1 => ?_)
  refine awp_plain 1 (by kernel_rfl) rfl (fun g0 hg0 => ?_)
  simp only [go_sem]
  refine hK1 _ ?_
  refine awp_seq_k (fun K2 hK2 => ?_)
  refine awp_seq_k (fun K3 hK3 => ?_)
  refine awp_plain 2 (by kernel_rfl) rfl (fun g1 hg1 => ?_)
  simp only [go_sem]
  refine hK3 _ ?_
  refine awp_f rfl ?_
  refine awp_skip ?_
  refine hK2 _ ?_
  refine awp_seq_k (fun K4 hK4 => ?_)
  refine awp_plain 5 (by kernel_rfl) rfl (fun g3 hg3 => ?_)
  simp only [go_sem]
  refine hK4 _ ?_
  refine awp_ret ?_
  refine ends_ev rfl ?_
  simp only [go_sem]
  exact Co.refl _
theorem unwrapI_calls (p : Str) (x : D) (hx : D.one x = true) (g d : Nat) : ACalls E 69 [.agg [encS p, x]] [] g d x [] := by
  refine acalls_of_awp (fn := Tryd.f69) (N := 5) Tryd.call69 Tryd.func69 rfl rfl (by simp) ?_
  simp only [go_sem]
  refine awp_seq_k (fun K1 hK1 => ?_)
  refine awp_plain 2 (by kernel_rfl) rfl (fun g0 hg0 => ?_)
  simp only [go_sem, hx]
  refine hK1 _ ?_
  refine awp_seq_k (fun K2 hK2 => ?_)
  refine awp_plain 3 (by kernel_rfl) rfl (fun g1 hg1 => ?_)
  simp only [go_sem]
  refine hK2 _ ?_
  refine awp_ret ?_
  refine ends_ev rfl ?_
  simp only [go_sem]
  exact Co.refl _
theorem unwrapF_calls (c a : Int) (g d : Nat) : ACalls E 66 [.agg [dI c, dI a]] [] g d (.iface 30 (dI c)) [] := by
  refine acalls_of_awp (fn := Tryd.f66) (N := 6) Tryd.call66 Tryd.func66 rfl rfl (by simp) ?_
  simp only [go_sem]
  refine awp_seq_k (fun K1 hK1 => ?_)
  refine awp_plain 2 (by kernel_rfl) rfl (fun g0 hg0 => ?_)
  simp only [go_sem]
  refine hK1 _ ?_
  refine awp_seq_k (fun K2 hK2 => ?_)
  refine awp_plain 4 (by kernel_rfl) rfl (fun g1 hg1 => ?_)
  simp only [go_sem]
  refine hK2 _ ?_
  refine awp_ret ?_
  refine ends_ev rfl ?_
  simp only [go_sem]
  exact Co.refl _

theorem fewL_take (l : List Str) (k : Nat) (h : k < l.length) : fewL (l.take (k + 1)) = (fewL (l.take k) && decide (l[k].size ≤ 50)) := by
  unfold fewL
  rw [List.take_add_one, List.getElem?_eq_getElem h, List.all_append]
  simp
theorem fewL_get {l : List Str} (h : fewL l = true) {k : Nat} (hk : k < l.length) : l[k].size ≤ 50 := by
  have := List.all_eq_true.1 h l[k] (List.getElem_mem hk)
  exact of_decide_eq_true this
theorem fewEr_calls (e : Err) (h : okEr e) (g d : Nat) : ACalls E 8 [encEr e] [] g d (dB (fewEr e)) [] := by
  obtain ⟨⟨h1, h2⟩, h3, h4⟩ := h
  refine acalls_of_awp (fn := Tryd.f8) (N := 32) Tryd.call8 Tryd.func8 rfl rfl (by simp) ?_
  simp only [go_sem]
  refine awp_seq_k (fun K1 hK1 => ?_)
  refine awp_plain 2 (by kernel_rfl) rfl (fun g0 hg0 => ?_)
  simp only [go_sem, encEr, erC, List.all_cons, List.all_nil]
  refine hK1 _ ?_
  refine awp_seq_k (fun K2 hK2 => ?_)
  refine awp_seq_k (fun K3 hK3 => ?_)
  refine awp_plain 1 (by kernel_rfl) rfl (fun g1 hg1 => ?_)
  simp only [go_sem]
  refine hK3 _ ?_
  refine awp_block ?_
  refine awp_loop (fun m s => ∃ k, k ≤ e.parts.length ∧ m = e.parts.length - k ∧ fewL (e.parts.take k) = true ∧
      Le { env := [(1, .ptr ⟨g0, 1, 0⟩ 0), (3, dN k)], σ := [(⟨g0, 1, 0⟩, .box 24 (erC e))] } s) e.parts.length ?_ ?_
  · refine ⟨0, Nat.zero_le _, rfl, rfl, le_of ?_⟩
    simp only [go_sem, erC]
    trivial
  · rintro m s ⟨k, hk, rfl, hf, hle⟩
    refine awp_keep hle ?_
    clear hle
    refine awp_seq_k (fun K4 hK4 => ?_)
    refine awp_seq_k (fun K5 hK5 => ?_)
    by_cases hlt : k < e.parts.length
    · have hs := fewL_take e.parts k hlt
      refine awp_plain 5 (by kernel_rfl) rfl (fun g2 hg2 => ?_)
      simp only [go_sem, hlt, erC, erC]
      refine hK5 _ ?_
      refine awp_t rfl ?_
      refine awp_skip ?_
      refine hK4 _ ?_
      refine awp_seq_k (fun K6 hK6 => ?_)
      refine awp_block ?_
      refine awp_seq_k (fun K7 hK7 => ?_)
      have hz := h2 _ (List.getElem_mem hlt)
      by_cases h50 : e.parts[k].size ≤ 50
      · rw [hf, decide_eq_true h50] at hs
        have hn : ¬ (50 : Int) < (e.parts[k].size : Int) := by omega
        refine awp_plain 7 (by kernel_rfl) rfl (fun g4 hg4 => ?_)
        simp only [go_sem, getM hlt, hn, decide_false]
        refine hK7 _ ?_
        refine awp_f rfl ?_
        refine awp_skip ?_
        refine hK6 _ ?_
        refine awp_plain 3 (by kernel_rfl) rfl (fun g3 hg3 => ?_)
        simp only [go_sem, erC, erC]
        try simp (disch := omega) only [wrapN]
        refine ⟨_, ?_, k + 1, hlt, rfl, hs, le_of ?_⟩
        · omega
        simp only [go_sem]
        trivial
      · have hn : (50 : Int) < (e.parts[k].size : Int) := by omega
        have hfe : fewEr e = false := by
          have : fewL e.parts = false := by
            cases hl : fewL e.parts with
            | false => rfl
            | true => exact absurd (fewL_get hl hlt) h50
          simp [fewEr, this]
        refine awp_plain 7 (by kernel_rfl) rfl (fun g4 hg4 => ?_)
        simp only [go_sem, getM hlt, hn, decide_true]
        refine hK7 _ ?_
        refine awp_t rfl ?_
        refine awp_seq_k (fun K8 hK8 => ?_)
        refine awp_plain 1 (by kernel_rfl) rfl (fun g5 hg5 => ?_)
        simp only [go_sem]
        refine hK8 _ ?_
        refine awp_ret ?_
        rw [hfe]
        refine ends_ev rfl ?_
        simp only [go_sem]
        exact Co.refl _
    · have : k = e.parts.length := by omega
      subst this
      rw [List.take_length] at hf
      refine awp_plain 5 (by kernel_rfl) rfl (fun g2 hg2 => ?_)
      simp only [go_sem, hlt, erC, erC]
      refine hK5 _ ?_
      refine awp_f rfl ?_
      refine awp_exit ?_
      refine hK2 _ ?_
      refine awp_seq_k (fun K9 hK9 => ?_)
      by_cases a : e.parts.length ≤ 20
      · have a' : (e.parts.length : Int) ≤ 20 := by omega
        by_cases b : -1152921504606846976 < e.at'
        · by_cases c : e.at' < 1152921504606846976
          · have hv : fewEr e = true := by simp [fewEr, hf, a, b, c]
            refine awp_plain 15 (by kernel_rfl) rfl (fun g6 hg6 => ?_)
            simp only [go_sem, a', b, c, decide_true]
            refine hK9 _ ?_
            refine awp_ret ?_
            refine ends_ev rfl ?_
            simp only [go_sem]
            exact Co.of_eq (by rw [hv])
          · have hv : fewEr e = false := by simp [fewEr, hf, a, b, c]
            refine awp_plain 15 (by kernel_rfl) rfl (fun g6 hg6 => ?_)
            simp only [go_sem, a', b, c, decide_true, decide_false]
            refine hK9 _ ?_
            refine awp_ret ?_
            refine ends_ev rfl ?_
            simp only [go_sem]
            exact Co.of_eq (by rw [hv])
        · have hv : fewEr e = false := by simp [fewEr, hf, a, b]
          refine awp_plain 15 (by kernel_rfl) rfl (fun g6 hg6 => ?_)
          simp only [go_sem, a', b, decide_true, decide_false]
          refine hK9 _ ?_
          refine awp_ret ?_
          refine ends_ev rfl ?_
          simp only [go_sem]
          exact Co.of_eq (by rw [hv])
      · have a' : ¬ (e.parts.length : Int) ≤ 20 := by omega
        have hv : fewEr e = false := by simp [fewEr, hf, a]
        refine awp_plain 15 (by kernel_rfl) rfl (fun g6 hg6 => ?_)
        simp only [go_sem, a', decide_false]
        refine hK9 _ ?_
        refine awp_ret ?_
        refine ends_ev rfl ?_
        simp only [go_sem]
        exact Co.of_eq (by rw [hv])
end Go.Proofs.T

