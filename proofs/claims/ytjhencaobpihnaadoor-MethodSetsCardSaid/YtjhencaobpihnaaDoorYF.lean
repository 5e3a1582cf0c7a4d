/- A part of the proof, under no conditions of its own: YF. -/
import Derived.Test.YtjhencaobpihnaaDoorA9
namespace Go.Proofs.T
open Go Go.Ab Go.RowKit

/-! ## Signatures that are alike -/

/-- The lists of what is handed back are seen as lists that stay. -/
theorem frozenSi {f : FuncId} {args : List D} {g d : Nat} {s : Sig} (h : ACalls E f args [] g d (ownSi g d s) (newSi g d s)) : ACalls E f args [] g d (encSi s) [] := by
  refine h.sees ?_
  refine Sees.trans (sees_frz ⟨g, d, 1⟩ (K := fun st => st = ⟨[(0, .agg [.val (.string s.name), slFm s.formals, .own ⟨g, d, 2⟩ s.params.length, .val (.string s.result.name), .sl false (s.result.args.map encTy), .val (.int .i64 s.result.pos), .val (.int .i64 s.pos)])], [(⟨g, d, 2⟩, .arr 94 5 (s.params.map encPa))]⟩) ?_) ?_
  · simp only [go_sem, newSi, ownSi]
  · rintro _ rfl
    refine sees_frz ⟨g, d, 2⟩ ?_
    simp only [go_sem]
    exact ⟨rfl, fun p hp => nomatch hp⟩

theorem canonF_calls (s : Sig) (hs : smSi s) (g d : Nat) : ACalls E 33 [encSi s] [] g d (encSi (canonSi s)) [] := frozenSi (canon_calls s hs g d)
theorem substSigF_calls (ns : List Str) (us : List Ty) (hns : ns.length ≤ 1000000) (hus : ∀ x ∈ us, smTy x) (s : Sig) (hs : smSi s) (g d : Nat) : ACalls E 32 [encSi s, slS ns, slTy us] [] g d (encSi (mapSi (substTy ns us) s)) [] := frozenSi (substSig_calls ns us hns hus s hs g d)
def same (t u : Ty) : Bool := decide (cmpTy t u = 0)

/-- Two lists, element by element. -/
def allB {α : Type} (p : α → α → Bool) : List α → List α → Bool
  | [], [] => true
  | a :: x, b :: y => p a b && allB p x y
  | _, _ => false
theorem allB_length {α : Type} {p : α → α → Bool} : ∀ {x y : List α}, x.length ≠ y.length → allB p x y = false
  | [], [], h => absurd rfl h
  | [], _ :: _, _ => rfl
  | _ :: _, [], _ => rfl
  | a :: x, b :: y, h => by simp only [allB, allB_length (x := x) (y := y) (fun e => h (by simp [e])), Bool.and_false]

def sameFm (a b : Formal) : Bool := decide (a.name = b.name) && same a.bound b.bound
def samePa (a b : Param) : Bool := decide (a.name = b.name) && same a.type b.type
def sameSi (s t : Sig) : Bool := decide (s.name = t.name) && (allB sameFm s.formals t.formals && (allB samePa s.params t.params && same s.result t.result))

theorem sameFm_calls (a b : Formal) (ha : okFm a) (g d : Nat) : ACalls E 69 [encFm a, encFm b] [] g d (dB (sameFm a b)) [] := by
  refine acalls_of_awp (fn := Tryd.f69) (N := 17) Tryd.call69 Tryd.func69 rfl rfl (by simp) ?_
  simp only [go_sem]
  refine awp_seq_k (fun K1 hK1 => ?_)
  refine awp_plain 3 (by kernel_rfl) rfl (fun g0 hg0 => ?_)
  simp only [go_sem]
  refine hK1 _ ?_
  refine awp_seq_k (fun K2 hK2 => ?_)
  by_cases hn : a.name = b.name
  · refine awp_ops (by kernel_rfl) rfl (fun g1 hg1 ops1 KR1 hops1 hKR1 => ?_)
    refine aops_eval 10 hops1 ?_
    simp only [go_sem, hn, decide_true]
    refine aops_pure hops1 rfl rfl rfl (typesSame_calls _ _ ha.2 _ _) (CoL.refl _) ?_
    refine aops_last 2 hops1 ?_
    simp only [go_sem]
    refine hKR1 _ ?_
    refine hK2 _ ?_
    refine awp_ret ?_
    rw [show sameFm a b = decide (cmpTy a.bound b.bound = 0) by simp [sameFm, same, hn]]
    refine ends_ev rfl ?_
    simp only [go_sem]
    exact Co.refl _
  · refine awp_plain 13 (by kernel_rfl) rfl (fun g1 hg1 => ?_)
    simp only [go_sem, hn]
    refine hK2 _ ?_
    refine awp_ret ?_
    rw [show sameFm a b = false by simp [sameFm, hn]]
    refine ends_ev rfl ?_
    simp only [go_sem]
    exact Co.refl _

theorem samePa_calls (a b : Param) (ha : okPa a) (g d : Nat) : ACalls E 71 [encPa a, encPa b] [] g d (dB (samePa a b)) [] := by
  refine acalls_of_awp (fn := Tryd.f71) (N := 17) Tryd.call71 Tryd.func71 rfl rfl (by simp) ?_
  simp only [go_sem]
  refine awp_seq_k (fun K1 hK1 => ?_)
  refine awp_plain 3 (by kernel_rfl) rfl (fun g0 hg0 => ?_)
  simp only [go_sem]
  refine hK1 _ ?_
  refine awp_seq_k (fun K2 hK2 => ?_)
  by_cases hn : a.name = b.name
  · refine awp_ops (by kernel_rfl) rfl (fun g1 hg1 ops1 KR1 hops1 hKR1 => ?_)
    refine aops_eval 10 hops1 ?_
    simp only [go_sem, hn, decide_true]
    refine aops_pure hops1 rfl rfl rfl (typesSame_calls _ _ ha.2 _ _) (CoL.refl _) ?_
    refine aops_last 2 hops1 ?_
    simp only [go_sem]
    refine hKR1 _ ?_
    refine hK2 _ ?_
    refine awp_ret ?_
    rw [show samePa a b = decide (cmpTy a.type b.type = 0) by simp [samePa, same, hn]]
    refine ends_ev rfl ?_
    simp only [go_sem]
    exact Co.refl _
  · refine awp_plain 13 (by kernel_rfl) rfl (fun g1 hg1 => ?_)
    simp only [go_sem, hn]
    refine hK2 _ ?_
    refine awp_ret ?_
    rw [show samePa a b = false by simp [samePa, hn]]
    refine ends_ev rfl ?_
    simp only [go_sem]
    exact Co.refl _


theorem eqFunFm_calls (p : Formal → Formal → Bool) (l r : List Formal) (f : Nat) (hl : l.length ≤ 9223372036854775807) (hf : ∀ a ∈ l, ∀ b ∈ r, ∀ g d, ACalls E f [encFm a, encFm b] [] g d (dB (p a b)) []) (g d : Nat) :
    ACalls E 68 [slFm l, slFm r, .func (.func f) [] []] [] g d (dB (allB p l r)) [] := by
  refine acalls_of_awp (fn := Tryd.f68) (N := 32) Tryd.call68 Tryd.func68 rfl rfl (by simp) ?_
  simp only [go_sem]
  refine awp_seq_k (fun K1 hK1 => ?_)
  refine awp_plain 1 (by kernel_rfl) rfl (fun g0 hg0 => ?_)
  simp only [go_sem]
  refine hK1 _ ?_
  refine awp_seq_k (fun K2 hK2 => ?_)
  refine awp_seq_k (fun K3 hK3 => ?_)
  by_cases hlen : l.length = r.length
  · have hlen' : (l.length : Int) = r.length := by omega
    refine awp_plain 5 (by kernel_rfl) rfl (fun g1 hg1 => ?_)
    simp only [go_sem, hlen']
    refine hK3 _ ?_
    refine awp_f rfl ?_
    refine awp_skip ?_
    refine hK2 _ ?_
    refine awp_seq_k (fun K4 hK4 => ?_)
    refine awp_seq_k (fun K5 hK5 => ?_)
    refine awp_plain 3 (by kernel_rfl) rfl (fun g3 hg3 => ?_)
    simp only [go_sem]
    refine hK5 _ ?_
    refine awp_block ?_
    refine awp_loop (fun m st => ∃ k, k ≤ l.length ∧ m = l.length - k ∧ allB p (l.drop k) (r.drop k) = allB p l r ∧
        Le { env := [(0, slFm l), (1, slFm r), (2, .func (.func f) [] []), (15, slFm l), (16, dN l.length), (17, dN k)], σ := [] } st) l.length ?_ ?_
    · refine ⟨0, Nat.zero_le _, rfl, rfl, le_of ?_⟩
      simp only [go_sem]
      trivial
    · rintro m st ⟨k, hk, rfl, hc, hle⟩
      refine awp_keep hle ?_
      clear hle
      by_cases hlt : k < l.length
      · have hlt2 : k < r.length := by omega
        rw [dropC _ _ hlt, dropC _ _ hlt2] at hc
        simp only [allB] at hc
        refine awp_seq_k (fun K6 hK6 => ?_)
        refine awp_plain 1 (by kernel_rfl) rfl (fun g4 hg4 => ?_)
        simp only [go_sem, hlt]
        refine hK6 _ ?_
        refine awp_seq_k (fun K7 hK7 => ?_)
        refine awp_t rfl ?_
        refine awp_skip ?_
        refine hK7 _ ?_
        refine awp_seq_k (fun K8 hK8 => ?_)
        refine awp_block ?_
        refine awp_seq_k (fun K9 hK9 => ?_)
        refine awp_plain 6 (by kernel_rfl) rfl (fun g5 hg5 => ?_)
        simp only [go_sem, getM hlt]
        refine hK9 _ ?_
        refine awp_seq_k (fun K10 hK10 => ?_)
        refine awp_plain 6 (by kernel_rfl) rfl (fun g6 hg6 => ?_)
        simp only [go_sem, getM hlt2]
        refine hK10 _ ?_
        refine awp_seq_k (fun K11 hK11 => ?_)
        refine awp_ops (by kernel_rfl) rfl (fun g7 hg7 ops7 KR7 hops7 hKR7 => ?_)
        refine aops_eval 3 hops7 ?_
        simp only [go_sem]
        refine aops_pure hops7 rfl rfl rfl (hf _ (List.getElem_mem hlt) _ (List.getElem_mem hlt2) _ _) (CoL.refl _) ?_
        refine aops_last 1 hops7 ?_
        simp only [go_sem]
        refine hKR7 _ ?_
        refine hK11 _ ?_
        cases hp : p l[k] r[k] with
        | true =>
          rw [hp, Bool.true_and] at hc
          refine awp_f rfl ?_
          refine awp_skip ?_
          refine hK8 _ ?_
          refine awp_plain 2 (by kernel_rfl) rfl (fun g9 hg9 => ?_)
          simp only [go_sem]
          try simp (disch := omega) only [wrapN]
          refine ⟨_, ?_, k + 1, hlt, rfl, hc, le_of ?_⟩
          · omega
          simp only [go_sem]
          omega
        | false =>
          rw [hp, Bool.false_and] at hc
          refine awp_t rfl ?_
          refine awp_seq_k (fun K12 hK12 => ?_)
          refine awp_plain 1 (by kernel_rfl) rfl (fun g8 hg8 => ?_)
          simp only [go_sem]
          refine hK12 _ ?_
          refine awp_ret ?_
          rw [← hc]
          refine ends_ev rfl ?_
          simp only [go_sem]
          exact Co.refl _
      · rw [dropN _ _ (by omega), dropN _ _ (by omega)] at hc
        simp only [allB] at hc
        refine awp_seq_k (fun K13 hK13 => ?_)
        refine awp_plain 1 (by kernel_rfl) rfl (fun g4 hg4 => ?_)
        simp only [go_sem, hlt]
        refine hK13 _ ?_
        refine awp_seq_k (fun K14 hK14 => ?_)
        refine awp_f rfl ?_
        refine awp_exit ?_
        refine hK4 _ ?_
        refine awp_seq_k (fun K15 hK15 => ?_)
        refine awp_plain 1 (by kernel_rfl) rfl (fun g10 hg10 => ?_)
        simp only [go_sem]
        refine hK15 _ ?_
        refine awp_ret ?_
        rw [← hc]
        refine ends_ev rfl ?_
        simp only [go_sem]
        exact Co.refl _
  · have hlen' : ¬ (l.length : Int) = r.length := by omega
    refine awp_plain 5 (by kernel_rfl) rfl (fun g1 hg1 => ?_)
    simp only [go_sem, hlen']
    refine hK3 _ ?_
    refine awp_t rfl ?_
    refine awp_seq_k (fun K16 hK16 => ?_)
    refine awp_plain 1 (by kernel_rfl) rfl (fun g2 hg2 => ?_)
    simp only [go_sem]
    refine hK16 _ ?_
    refine awp_ret ?_
    rw [allB_length hlen]
    refine ends_ev rfl ?_
    simp only [go_sem]
    exact Co.refl _

theorem eqFunPa_calls (p : Param → Param → Bool) (l r : List Param) (f : Nat) (hl : l.length ≤ 9223372036854775807) (hf : ∀ a ∈ l, ∀ b ∈ r, ∀ g d, ACalls E f [encPa a, encPa b] [] g d (dB (p a b)) []) (g d : Nat) :
    ACalls E 70 [slPa l, slPa r, .func (.func f) [] []] [] g d (dB (allB p l r)) [] := by
  refine acalls_of_awp (fn := Tryd.f70) (N := 32) Tryd.call70 Tryd.func70 rfl rfl (by simp) ?_
  simp only [go_sem]
  refine awp_seq_k (fun K1 hK1 => ?_)
  refine awp_plain 1 (by kernel_rfl) rfl (fun g0 hg0 => ?_)
  simp only [go_sem]
  refine hK1 _ ?_
  refine awp_seq_k (fun K2 hK2 => ?_)
  refine awp_seq_k (fun K3 hK3 => ?_)
  by_cases hlen : l.length = r.length
  · have hlen' : (l.length : Int) = r.length := by omega
    refine awp_plain 5 (by kernel_rfl) rfl (fun g1 hg1 => ?_)
    simp only [go_sem, hlen']
    refine hK3 _ ?_
    refine awp_f rfl ?_
    refine awp_skip ?_
    refine hK2 _ ?_
    refine awp_seq_k (fun K4 hK4 => ?_)
    refine awp_seq_k (fun K5 hK5 => ?_)
    refine awp_plain 3 (by kernel_rfl) rfl (fun g3 hg3 => ?_)
    simp only [go_sem]
    refine hK5 _ ?_
    refine awp_block ?_
    refine awp_loop (fun m st => ∃ k, k ≤ l.length ∧ m = l.length - k ∧ allB p (l.drop k) (r.drop k) = allB p l r ∧
        Le { env := [(0, slPa l), (1, slPa r), (2, .func (.func f) [] []), (15, slPa l), (16, dN l.length), (17, dN k)], σ := [] } st) l.length ?_ ?_
    · refine ⟨0, Nat.zero_le _, rfl, rfl, le_of ?_⟩
      simp only [go_sem]
      trivial
    · rintro m st ⟨k, hk, rfl, hc, hle⟩
      refine awp_keep hle ?_
      clear hle
      by_cases hlt : k < l.length
      · have hlt2 : k < r.length := by omega
        rw [dropC _ _ hlt, dropC _ _ hlt2] at hc
        simp only [allB] at hc
        refine awp_seq_k (fun K6 hK6 => ?_)
        refine awp_plain 1 (by kernel_rfl) rfl (fun g4 hg4 => ?_)
        simp only [go_sem, hlt]
        refine hK6 _ ?_
        refine awp_seq_k (fun K7 hK7 => ?_)
        refine awp_t rfl ?_
        refine awp_skip ?_
        refine hK7 _ ?_
        refine awp_seq_k (fun K8 hK8 => ?_)
        refine awp_block ?_
        refine awp_seq_k (fun K9 hK9 => ?_)
        refine awp_plain 6 (by kernel_rfl) rfl (fun g5 hg5 => ?_)
        simp only [go_sem, getM hlt]
        refine hK9 _ ?_
        refine awp_seq_k (fun K10 hK10 => ?_)
        refine awp_plain 6 (by kernel_rfl) rfl (fun g6 hg6 => ?_)
        simp only [go_sem, getM hlt2]
        refine hK10 _ ?_
        refine awp_seq_k (fun K11 hK11 => ?_)
        refine awp_ops (by kernel_rfl) rfl (fun g7 hg7 ops7 KR7 hops7 hKR7 => ?_)
        refine aops_eval 3 hops7 ?_
        simp only [go_sem]
        refine aops_pure hops7 rfl rfl rfl (hf _ (List.getElem_mem hlt) _ (List.getElem_mem hlt2) _ _) (CoL.refl _) ?_
        refine aops_last 1 hops7 ?_
        simp only [go_sem]
        refine hKR7 _ ?_
        refine hK11 _ ?_
        cases hp : p l[k] r[k] with
        | true =>
          rw [hp, Bool.true_and] at hc
          refine awp_f rfl ?_
          refine awp_skip ?_
          refine hK8 _ ?_
          refine awp_plain 2 (by kernel_rfl) rfl (fun g9 hg9 => ?_)
          simp only [go_sem]
          try simp (disch := omega) only [wrapN]
          refine ⟨_, ?_, k + 1, hlt, rfl, hc, le_of ?_⟩
          · omega
          simp only [go_sem]
          omega
        | false =>
          rw [hp, Bool.false_and] at hc
          refine awp_t rfl ?_
          refine awp_seq_k (fun K12 hK12 => ?_)
          refine awp_plain 1 (by kernel_rfl) rfl (fun g8 hg8 => ?_)
          simp only [go_sem]
          refine hK12 _ ?_
          refine awp_ret ?_
          rw [← hc]
          refine ends_ev rfl ?_
          simp only [go_sem]
          exact Co.refl _
      · rw [dropN _ _ (by omega), dropN _ _ (by omega)] at hc
        simp only [allB] at hc
        refine awp_seq_k (fun K13 hK13 => ?_)
        refine awp_plain 1 (by kernel_rfl) rfl (fun g4 hg4 => ?_)
        simp only [go_sem, hlt]
        refine hK13 _ ?_
        refine awp_seq_k (fun K14 hK14 => ?_)
        refine awp_f rfl ?_
        refine awp_exit ?_
        refine hK4 _ ?_
        refine awp_seq_k (fun K15 hK15 => ?_)
        refine awp_plain 1 (by kernel_rfl) rfl (fun g10 hg10 => ?_)
        simp only [go_sem]
        refine hK15 _ ?_
        refine awp_ret ?_
        rw [← hc]
        refine ends_ev rfl ?_
        simp only [go_sem]
        exact Co.refl _
  · have hlen' : ¬ (l.length : Int) = r.length := by omega
    refine awp_plain 5 (by kernel_rfl) rfl (fun g1 hg1 => ?_)
    simp only [go_sem, hlen']
    refine hK3 _ ?_
    refine awp_t rfl ?_
    refine awp_seq_k (fun K16 hK16 => ?_)
    refine awp_plain 1 (by kernel_rfl) rfl (fun g2 hg2 => ?_)
    simp only [go_sem]
    refine hK16 _ ?_
    refine awp_ret ?_
    rw [allB_length hlen]
    refine ends_ev rfl ?_
    simp only [go_sem]
    exact Co.refl _

theorem sameSig_calls (s t : Sig) (hs : okSi s) (g d : Nat) : ACalls E 43 [encSi s, encSi t] [] g d (dB (sameSi s t)) [] := by
  obtain ⟨h1, ⟨h2, h3⟩, ⟨h4, h5⟩, h6⟩ := hs
  refine acalls_of_awp (fn := Tryd.f43) (N := 31) Tryd.call43 Tryd.func43 rfl rfl (by simp) ?_
  simp only [go_sem]
  refine awp_seq_k (fun K1 hK1 => ?_)
  refine awp_plain 3 (by kernel_rfl) rfl (fun g0 hg0 => ?_)
  simp only [go_sem]
  refine hK1 _ ?_
  refine awp_seq_k (fun K2 hK2 => ?_)
  by_cases hn : s.name = t.name
  · refine awp_ops (by kernel_rfl) rfl (fun g1 hg1 ops1 KR1 hops1 hKR1 => ?_)
    refine aops_eval 10 hops1 ?_
    simp only [go_sem, hn, decide_true]
    refine aops_pure hops1 rfl rfl rfl (eqFunFm_calls sameFm _ _ _ h2 (fun a ha b _ g d => sameFm_calls a b (h3 a ha) g d) _ _) (CoL.refl _) ?_
    cases hf : allB sameFm s.formals t.formals with
    | true =>
      refine aops_eval 6 hops1 ?_
      simp only [go_sem]
      refine aops_pure hops1 rfl rfl rfl (eqFunPa_calls samePa _ _ _ h4 (fun a ha b _ g d => samePa_calls a b (h5 a ha) g d) _ _) (CoL.refl _) ?_
      cases hp : allB samePa s.params t.params with
      | true =>
        refine aops_eval 6 hops1 ?_
        simp only [go_sem]
        refine aops_pure hops1 rfl rfl rfl (typesSame_calls _ _ h6 _ _) (CoL.refl _) ?_
        refine aops_last 2 hops1 ?_
        simp only [go_sem]
        refine hKR1 _ ?_
        refine hK2 _ ?_
        refine awp_ret ?_
        rw [show sameSi s t = decide (cmpTy s.result t.result = 0) by simp [sameSi, hn, hf, hp, same]]
        refine ends_ev rfl ?_
        simp only [go_sem]
        exact Co.refl _
      | false =>
        refine aops_last 9 hops1 ?_
        simp only [go_sem]
        refine hKR1 _ ?_
        refine hK2 _ ?_
        refine awp_ret ?_
        rw [show sameSi s t = false by simp [sameSi, hn, hf, hp]]
        refine ends_ev rfl ?_
        simp only [go_sem]
        exact Co.refl _
    | false =>
      refine aops_last 16 hops1 ?_
      simp only [go_sem]
      refine hKR1 _ ?_
      refine hK2 _ ?_
      refine awp_ret ?_
      rw [show sameSi s t = false by simp [sameSi, hn, hf]]
      refine ends_ev rfl ?_
      simp only [go_sem]
      exact Co.refl _
  · refine awp_plain 27 (by kernel_rfl) rfl (fun g1 hg1 => ?_)
    simp only [go_sem, hn]
    refine hK2 _ ?_
    refine awp_ret ?_
    rw [show sameSi s t = false by simp [sameSi, hn]]
    refine ends_ev rfl ?_
    simp only [go_sem]
    exact Co.refl _
end Go.Proofs.T


namespace Go.Proofs.T
open Go Go.Ab Go.RowKit

def refFm (q : Bool) (a b : Formal) : Bool := (decide (a.name = b.name) && same a.bound b.bound) && (!q || (decide (a.pos = b.pos) && eqTy a.bound b.bound))
def refPa (q : Bool) (a b : Param) : Bool := (decide (a.name = b.name) && same a.type b.type) && (!q || (decide (a.pos = b.pos) && eqTy a.type b.type))
def refSi (q : Bool) (s t : Sig) : Bool := (decide (s.name = t.name) && (allB (refFm q) s.formals t.formals && (allB (refPa q) s.params t.params && same s.result t.result))) && (!q || (decide (s.pos = t.pos) && eqTy s.result t.result))


end Go.Proofs.T

