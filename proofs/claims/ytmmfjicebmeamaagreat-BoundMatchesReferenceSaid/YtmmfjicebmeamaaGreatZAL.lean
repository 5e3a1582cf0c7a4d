/- A part of the proof, under no conditions of its own: ZAL. -/
import Derived.Test.YtmmfjicebmeamaaGreatZAJ
import Derived.Test.YtmmfjicebmeamaaGreatZAK
import Derived.Test.YtmmfjicebmeamaaGreatZAH
import Derived.Test.YtmmfjicebmeamaaGreatZAI
namespace Go.Proofs.T
open Go Go.Ab Go.RowKit

/-! ## Types that are right -/

mutual
def namesTy : Ty → List Str
  | .mk n a _ => n :: namesTys a
def namesTys : List Ty → List Str
  | [] => []
  | t :: r => namesTy t ++ namesTys r
end
theorem namesTy_eq (t : Ty) : namesTy t = t.name :: namesTys t.args := by cases t; rfl
theorem namesTys_app : ∀ a b : List Ty, namesTys (a ++ b) = namesTys a ++ namesTys b
  | [], b => rfl
  | x :: a, b => by simp [namesTys, namesTys_app a b]
theorem namesTys_take (c : List Ty) (i : Nat) (h : i < c.length) : namesTys (c.take (i + 1)) = namesTys (c.take i) ++ namesTy c[i] := by
  rw [List.take_add_one, List.getElem?_eq_getElem h, namesTys_app]
  simp [namesTys]
theorem namesTys_len (c : List Ty) (i : Nat) : (namesTys (c.take i)).length ≤ (namesTys c).length := by
  have := congrArg (fun l => (namesTys l).length) (List.take_append_drop i c)
  simp only [namesTys_app, List.length_append] at this
  omega
theorem namesTys_get (c : List Ty) (i : Nat) (h : i < c.length) : (namesTy c[i]).length ≤ (namesTys c).length := by
  have h1 := namesTys_take c i h
  have h2 := namesTys_len c (i + 1)
  rw [h1, List.length_append] at h2
  omega
theorem namesTy_pos (t : Ty) : 0 < (namesTy t).length := by rw [namesTy_eq]; simp

theorem okRowsN : ∀ l : List Str, okRows 1 (l.map encS) := fun l => okRows_map 1 encS l fun _ => ⟨rfl, rfl⟩
set_option maxRecDepth 100000 in
theorem list04_calls : ∀ t : Ty, okTy t → (namesTy t).length ≤ 1000000 → ∀ g d, ACalls E 80 [encTy t] [] g d (slS (namesTy t)) [] := by
  intro t
  induction t using Ty.ind with
  | h t ih =>
  intro hok0 hlen g d
  have hok := (okTy_iff t).1 hok0
  have hn := namesTy_eq t
  have hl1 : (namesTys t.args).length + 1 ≤ 1000000 := by rw [hn] at hlen; simpa using hlen
  refine acalls_of_awp (fn := Tryz.f80) (N := 24) Tryz.call80 Tryz.func80 rfl rfl (by simp) ?_
  simp only [go_sem]
  refine awp_seq_k (fun K1 hK1 => ?_)
  refine awp_plain 2 (by kernel_rfl) rfl (fun g0 hg0 => ?_)
  simp only [go_sem]
  refine hK1 _ ?_
  refine awp_seq_k (fun K2 hK2 => ?_)
  refine awp_plain 4 (by kernel_rfl) rfl (fun g1 hg1 => ?_)
  simp only [go_sem]
  refine hK2 _ ?_
  refine awp_seq_k (fun K3 hK3 => ?_)
  refine awp_seq_k (fun K4 hK4 => ?_)
  refine awp_plain 1 (by kernel_rfl) rfl (fun g2 hg2 => ?_)
  simp only [go_sem]
  refine hK4 _ ?_
  refine awp_block ?_
  refine awp_loop (fun m s => ∃ k, k ≤ t.args.length ∧ m = t.args.length - k ∧ ((k = 0 ∧ Le { env := [(1, .ptr ⟨g0, 1, 0⟩ 0), (4, dN 0), (3, .sl true [encS t.name])], σ := [(⟨g0, 1, 0⟩, .box 25 (tyC t))] } s) ∨
      ∃ a i, a ≠ g0 ∧ Le { env := [(1, .ptr ⟨g0, 1, 0⟩ 0), (4, dN k), (3, .own ⟨a, i, 0⟩ (1 + (namesTys (t.args.take k)).length))], σ := [(⟨g0, 1, 0⟩, .box 25 (tyC t)), (⟨a, i, 0⟩, .arr 9 1 (encS t.name :: (namesTys (t.args.take k)).map encS))] } s)) t.args.length ?_ ?_
  · refine ⟨0, Nat.zero_le _, rfl, .inl ⟨rfl, le_of ?_⟩⟩
    simp only [go_sem, tyC]
    all_goals first | exact rfl | exact ⟨rfl, rfl⟩ | trivial
  · rintro m s ⟨k, hk, rfl, ⟨rfl, hle⟩ | ⟨a, i, ha, hle⟩⟩
    · refine awp_keep hle ?_
      clear hle
      refine awp_seq_k (fun K5 hK5 => ?_)
      refine awp_seq_k (fun K6 hK6 => ?_)
      by_cases hlt : 0 < t.args.length
      · have hlt' : (((0 : Nat) : Int) < (t.args.length : Int)) = True := eq_true (by omega)
        have hb := namesTys_get t.args 0 hlt
        have hp := namesTy_pos t.args[0]
        refine awp_plain 5 (by kernel_rfl) rfl (fun g3 hg3 => ?_)
        simp only [go_sem, hlt', decide_true, tyC]
        refine hK6 _ ?_
        refine awp_t rfl ?_
        refine awp_skip ?_
        refine hK5 _ ?_
        refine awp_seq_k (fun K7 hK7 => ?_)
        refine awp_block ?_
        refine awp_ops (by kernel_rfl) rfl (fun g5 hg5 ops5 KR5 hops5 hKR5 => ?_)
        refine aops_eval 6 hops5 ?_
        simp only [go_sem, getM hlt]
        have hn5_g0 : g5 ≠ g0 := fresh_g hg5 1 0 (by simp [go_sem])
        refine aops_pure hops5 rfl rfl rfl (ih _ (List.getElem_mem hlt) (hok.2.2 _ (List.getElem_mem hlt)) (by omega) _ _) (CoL.refl _) ?_
        refine aops_appx hops5 rfl rfl rfl rfl rfl es44 sz9 by9 ze9 rfl (by decide) ?_
        simp only [go_sem, okRowsN]
        refine ⟨hp, ⟨by omega, by omega⟩, ?_⟩
        refine aops_last 1 hops5 ?_
        simp only [go_sem]
        refine hKR5 _ ?_
        refine hK7 _ ?_
        refine awp_plain 3 (by kernel_rfl) rfl (fun g4 hg4 => ?_)
        simp only [go_sem, tyC]
        try simp (disch := omega) only [wrapN]
        refine ⟨_, ?_, 1, hlt, rfl, .inr ⟨g5, 22, hn5_g0, le_of ?_⟩⟩
        · omega
        have h1 := namesTys_take t.args 0 hlt
        rw [List.take_zero] at h1
        have h2 : namesTys (t.args.take 1) = namesTy t.args[0] := h1
        simp only [go_sem, h2, hn5_g0, Ne.symm hn5_g0]
        all_goals first | exact rfl | exact ⟨rfl, rfl⟩ | trivial
      · have h0 : t.args = [] := List.eq_nil_of_length_eq_zero (by omega)
        have hlt' : (((0 : Nat) : Int) < (t.args.length : Int)) = False := eq_false (by omega)
        refine awp_plain 5 (by kernel_rfl) rfl (fun g3 hg3 => ?_)
        simp only [go_sem, hlt', decide_false, tyC]
        refine hK6 _ ?_
        refine awp_f rfl ?_
        refine awp_exit ?_
        refine hK3 _ ?_
        refine awp_seq_k (fun K8 hK8 => ?_)
        refine awp_plain 2 (by kernel_rfl) rfl (fun g6 hg6 => ?_)
        simp only [go_sem]
        refine hK8 _ ?_
        refine awp_ret ?_
        refine ends_ev rfl ?_
        simp only [go_sem]
        exact by rw [hn, h0]; exact Co.inexact _ _
    · refine awp_keep hle ?_
      clear hle
      refine awp_seq_k (fun K9 hK9 => ?_)
      refine awp_seq_k (fun K10 hK10 => ?_)
      by_cases hlt : k < t.args.length
      · have hb := namesTys_get t.args k hlt
        have hc := namesTys_len t.args (k + 1)
        have h1 := namesTys_take t.args k hlt
        rw [h1, List.length_append] at hc
        refine awp_plain 5 (by kernel_rfl) rfl (fun g3 hg3 => ?_)
        simp only [go_sem, hlt, tyC, ha]
        refine hK10 _ ?_
        refine awp_t rfl ?_
        refine awp_skip ?_
        refine hK9 _ ?_
        refine awp_seq_k (fun K11 hK11 => ?_)
        refine awp_block ?_
        refine awp_ops (by kernel_rfl) rfl (fun g5 hg5 ops5 KR5 hops5 hKR5 => ?_)
        refine aops_eval 6 hops5 ?_
        simp only [go_sem, getM hlt, ha]
        refine aops_pure hops5 rfl rfl rfl (ih _ (List.getElem_mem hlt) (hok.2.2 _ (List.getElem_mem hlt)) (by omega) _ _) (CoL.refl _) ?_
        refine aops_app hops5 rfl rfl rfl rfl rfl es44 sz9 by9 ze9 rfl (by decide) ?_
        simp only [go_sem, okRowsN, Ne.symm ha]
        first | refine ⟨⟨by omega, by omega⟩, ?_⟩ | skip
        have hn5_g0 : g5 ≠ g0 := fresh_g hg5 1 0 (by simp [go_sem])
        refine aops_last 1 hops5 ?_
        simp only [go_sem]
        refine hKR5 _ ?_
        refine hK11 _ ?_
        refine awp_plain 3 (by kernel_rfl) rfl (fun g4 hg4 => ?_)
        simp only [go_sem, tyC]
        try simp (disch := omega) only [wrapN]
        refine ⟨_, ?_, k + 1, hlt, rfl, .inr ⟨g5, 22, hn5_g0, le_of ?_⟩⟩
        · omega
        simp only [go_sem, h1, List.map_append, List.length_append, Nat.add_assoc, hn5_g0, Ne.symm hn5_g0]
        all_goals first | exact rfl | exact ⟨rfl, rfl⟩ | trivial | omega
      · have : k = t.args.length := by omega
        subst this
        refine awp_plain 5 (by kernel_rfl) rfl (fun g3 hg3 => ?_)
        simp only [go_sem, hlt, tyC, ha]
        refine hK10 _ ?_
        refine awp_f rfl ?_
        refine awp_exit ?_
        refine hK3 _ ?_
        refine awp_seq_k (fun K12 hK12 => ?_)
        refine awp_plain 2 (by kernel_rfl) rfl (fun g6 hg6 => ?_)
        simp only [go_sem]
        refine hK12 _ ?_
        refine awp_ret ?_
        refine ret_frz ⟨a, i, 0⟩ ?_
        simp only [go_sem, Ne.symm ha]
        refine ends_ev rfl ?_
        simp only [go_sem]
        exact Co.of_eq (by rw [hn]; rfl)
end Go.Proofs.T


namespace Go.Proofs.T
open Go Go.Ab Go.RowKit

noncomputable def rightTy (t : Ty) : Bool := (namesTy t).all nmOk
theorem names_ok : ∀ t : Ty, okTy t → ∀ s ∈ namesTy t, s.size ≤ 9223372036854775807 := by
  intro t
  induction t using Ty.ind with
  | h t ih =>
  intro hok s hs
  obtain ⟨h1, h2, h3⟩ := (okTy_iff t).1 hok
  rw [namesTy_eq] at hs
  rcases List.mem_cons.1 hs with rfl | hs
  · exact h1
  · have : ∀ l : List Ty, (∀ x ∈ l, x ∈ t.args) → s ∈ namesTys l → s.size ≤ 9223372036854775807 := by
      intro l
      induction l with
      | nil => intro _ h; cases h
      | cons x r ihr =>
        intro hl h
        rcases List.mem_append.1 h with h | h
        · exact ih x (hl x List.mem_cons_self) (h3 x (hl x List.mem_cons_self)) s h
        · exact ihr (fun y hy => hl y (List.mem_cons_of_mem _ hy)) h
    exact this t.args (fun _ h => h) hs
set_option maxRecDepth 100000 in
theorem right04_calls (t : Ty) (hok : okTy t) (hlen : (namesTy t).length ≤ 1000000) (g d : Nat) : ACalls E 48 [encTy t] [] g d (dB (rightTy t)) [] := by
  have hsz := names_ok t hok
  refine acalls_of_awp (fn := Tryz.f48) (N := 19) Tryz.call48 Tryz.func48 rfl rfl (by simp) ?_
  simp only [go_sem]
  refine awp_seq_k (fun K1 hK1 => ?_)
  refine awp_plain 2 (by kernel_rfl) rfl (fun g0 hg0 => ?_)
  simp only [go_sem]
  refine hK1 _ ?_
  refine awp_seq_k (fun K2 hK2 => ?_)
  refine awp_ops (by kernel_rfl) rfl (fun g1 hg1 ops1 KR1 hops1 hKR1 => ?_)
  refine aops_eval 1 hops1 ?_
  simp only [go_sem]
  refine aops_pure hops1 rfl rfl rfl (list04_calls t hok hlen _ _) (CoL.refl _) ?_
  refine aops_last 1 hops1 ?_
  simp only [go_sem]
  refine hKR1 _ ?_
  refine hK2 _ ?_
  refine awp_seq_k (fun K3 hK3 => ?_)
  refine awp_seq_k (fun K4 hK4 => ?_)
  refine awp_plain 1 (by kernel_rfl) rfl (fun g2 hg2 => ?_)
  simp only [go_sem]
  refine hK4 _ ?_
  refine awp_block ?_
  refine awp_loop (fun m s => ∃ k, k ≤ (namesTy t).length ∧ m = (namesTy t).length - k ∧ ((namesTy t).take k).all nmOk = true ∧ Le { env := [(3, slS (namesTy t)), (4, dN k)], σ := [] } s) (namesTy t).length ?_ ?_
  · refine ⟨0, Nat.zero_le _, rfl, rfl, le_of ?_⟩
    simp only [go_sem]
    all_goals first | exact rfl | exact ⟨rfl, rfl⟩ | trivial
  · rintro m s ⟨k, hk, rfl, hall, hle⟩
    refine awp_keep hle ?_
    clear hle
    refine awp_seq_k (fun K5 hK5 => ?_)
    refine awp_seq_k (fun K6 hK6 => ?_)
    by_cases hlt : k < (namesTy t).length
    · have htake : ((namesTy t).take (k + 1)).all nmOk = nmOk (namesTy t)[k] := by
        rw [List.take_add_one, List.getElem?_eq_getElem hlt, List.all_append, hall]
        simp
      refine awp_plain 4 (by kernel_rfl) rfl (fun g3 hg3 => ?_)
      simp only [go_sem, hlt]
      refine hK6 _ ?_
      refine awp_t rfl ?_
      refine awp_skip ?_
      refine hK5 _ ?_
      refine awp_seq_k (fun K7 hK7 => ?_)
      refine awp_block ?_
      refine awp_seq_k (fun K8 hK8 => ?_)
      refine awp_ops (by kernel_rfl) rfl (fun g5 hg5 ops5 KR5 hops5 hKR5 => ?_)
      refine aops_eval 4 hops5 ?_
      simp only [go_sem, getM hlt]
      cases hb : nmOk (namesTy t)[k] with
      | false =>
        have hf : rightTy t = false := by
          unfold rightTy
          rw [List.all_eq_false]
          exact ⟨_, List.getElem_mem hlt, by rw [hb]; decide⟩
        refine aops_pure hops5 rfl rfl rfl (is_calls (namesTy t)[k] (hsz _ (List.getElem_mem hlt)) _ _) (CoL.refl _) ?_
        refine aops_last 1 hops5 ?_
        simp only [go_sem, hb, Bool.not_false]
        refine hKR5 _ ?_
        refine hK8 _ ?_
        refine awp_t rfl ?_
        refine awp_seq_k (fun K9 hK9 => ?_)
        refine awp_plain 1 (by kernel_rfl) rfl (fun g6 hg6 => ?_)
        simp only [go_sem]
        refine hK9 _ ?_
        refine awp_ret ?_
        refine ends_ev rfl ?_
        simp only [go_sem]
        exact Co.of_eq (by rw [hf])
      | true =>
        refine aops_pure hops5 rfl rfl rfl (is_calls (namesTy t)[k] (hsz _ (List.getElem_mem hlt)) _ _) (CoL.refl _) ?_
        refine aops_last 1 hops5 ?_
        simp only [go_sem, hb, Bool.not_true]
        refine hKR5 _ ?_
        refine hK8 _ ?_
        refine awp_f rfl ?_
        refine awp_skip ?_
        refine hK7 _ ?_
        refine awp_plain 3 (by kernel_rfl) rfl (fun g4 hg4 => ?_)
        simp only [go_sem]
        try simp (disch := omega) only [wrapN]
        refine ⟨_, ?_, k + 1, hlt, rfl, by rw [htake, hb], le_of ?_⟩
        · omega
        simp only [go_sem]
        omega
    · have : k = (namesTy t).length := by omega
      subst this
      rw [List.take_length] at hall
      refine awp_plain 4 (by kernel_rfl) rfl (fun g3 hg3 => ?_)
      simp only [go_sem, hlt]
      refine hK6 _ ?_
      refine awp_f rfl ?_
      refine awp_exit ?_
      refine hK3 _ ?_
      refine awp_seq_k (fun K10 hK10 => ?_)
      refine awp_plain 1 (by kernel_rfl) rfl (fun g7 hg7 => ?_)
      simp only [go_sem]
      refine hK10 _ ?_
      refine awp_ret ?_
      refine ends_ev rfl ?_
      simp only [go_sem]
      exact Co.of_eq (by unfold rightTy; rw [hall])
end Go.Proofs.T


namespace Go.Proofs.T
open Go Go.Ab Go.RowKit

/-! ## The iterator over an expression and its kids -/

mutual
def nodesEx : Ex → List Ex
  | .mk k n t a c p => .mk k n t a c p :: nodesExs c
def nodesExs : List Ex → List Ex
  | [] => []
  | t :: r => nodesEx t ++ nodesExs r
end
theorem nodesEx_eq (e : Ex) : nodesEx e = e :: nodesExs e.kids := by cases e; rfl
theorem nodesExs_app : ∀ a b : List Ex, nodesExs (a ++ b) = nodesExs a ++ nodesExs b
  | [], b => rfl
  | x :: a, b => by simp [nodesExs, nodesExs_app a b]
theorem nodesExs_take (c : List Ex) (i : Nat) (h : i < c.length) : nodesExs (c.take (i + 1)) = nodesExs (c.take i) ++ nodesEx c[i] := by
  rw [List.take_add_one, List.getElem?_eq_getElem h, nodesExs_app]
  simp [nodesExs]
theorem nodesExs_get (c : List Ex) (i : Nat) (h : i < c.length) (j : Nat) (x : Ex) (hx : (nodesEx c[i])[j]? = some x) : (nodesExs c)[(nodesExs (c.take i)).length + j]? = some x := by
  have hj := (List.getElem?_eq_some_iff.1 hx).1
  have e : nodesExs c = (nodesExs (c.take i) ++ nodesEx c[i]) ++ nodesExs (c.drop (i + 1)) := by rw [← nodesExs_take c i h, ← nodesExs_app, List.take_append_drop]
  rw [e, List.getElem?_append_left (by simp; omega), List.getElem?_append_right (by omega)]
  simpa using hx

theorem yld_cells (n : Nm) : (D.yld n).cells = [.yld n] := rfl
theorem yld_one (n : Nm) : (D.yld n).one = true := rfl
attribute [go_sem] yld_cells yld_one
/-- The closure that visits a kid. -/
abbrev stopD (q : Nat) : D := .func (.func 159) [] [.ptr ⟨q, 3, 0⟩ 0]
/-- Beside the box that holds yield. -/
def bx (n : Nm) (q : Nat) (P : Sto → Prop) (τ : Sto) : Prop := ∃ τ0, τ = (⟨q, 3, 0⟩, .box 52 [.yld n]) :: τ0 ∧ P τ0 ∧ get τ0 ⟨q, 3, 0⟩ = none

set_option maxRecDepth 100000 in
theorem indexK_calls (c : List Ex) (hc : c.length ≤ 9223372036854775807) (q : Nat) (I : Nat → Sto → Prop) (h : ∀ i (hi : i < c.length), IC E 159 [encEx c[i], .ptr ⟨q, 3, 0⟩ 0] (I i) (I (i + 1)) (dB false)) :
    IC E 171 [slEx c, stopD q] (I 0) (I c.length) (dI (-1)) := by
  refine icalls_of_awp (fn := Tryz.f171) (N := 19) Tryz.call171 Tryz.func171 rfl rfl (by simp) (fun g d τ hτ => ?_)
  simp only [go_sem]
  refine awp_seq_k (fun K1 hK1 => ?_)
  refine awp_plain 1 (by kernel_rfl) rfl (fun g0 hg0 => ?_)
  simp only [go_sem]
  refine hK1 _ ?_
  refine awp_seq_k (fun K2 hK2 => ?_)
  refine awp_seq_k (fun K3 hK3 => ?_)
  refine awp_plain 3 (by kernel_rfl) rfl (fun g1 hg1 => ?_)
  simp only [go_sem]
  refine hK3 _ ?_
  refine awp_block ?_
  refine awp_loop (fun m s => ∃ k τ', k ≤ c.length ∧ m = c.length - k ∧ I k τ' ∧ LeT { env := [(0, slEx c), (1, stopD q), (7, dN c.length), (8, dN k)], σ := τ' } s) c.length ?_ ?_
  · refine ⟨0, τ, Nat.zero_le _, rfl, hτ, let_of rfl ?_⟩
    simp only [go_sem]
    trivial
  · rintro m s ⟨k, τ', hk, rfl, hI, hle⟩
    refine awp_keepT hle ?_
    clear hle
    by_cases hlt : k < c.length
    · refine awp_seq_k (fun K4 hK4 => ?_)
      refine awp_plain 1 (by kernel_rfl) rfl (fun g2 hg2 => ?_)
      simp only [go_sem, hlt]
      refine hK4 _ ?_
      refine awp_seq_k (fun K5 hK5 => ?_)
      refine awp_t rfl ?_
      refine awp_skip ?_
      refine hK5 _ ?_
      refine awp_seq_k (fun K6 hK6 => ?_)
      refine awp_block ?_
      refine awp_seq_k (fun K7 hK7 => ?_)
      refine awp_plain 2 (by kernel_rfl) rfl (fun g3 hg3 => ?_)
      simp only [go_sem]
      refine hK7 _ ?_
      refine awp_seq_k (fun K8 hK8 => ?_)
      refine awp_ops (by kernel_rfl) rfl (fun g4 hg4 ops4 KR4 hops4 hKR4 => ?_)
      refine aops_eval 5 hops4 ?_
      simp only [go_sem, getM hlt]
      refine aops_icall (own := []) (τ := τ') hops4 rfl rfl rfl (h k hlt) (CoL.refl _) rfl (fun p hp => nomatch hp) hI (fun τ2 hI2 _ => ?_)
      refine aops_last 0 hops4 ?_
      simp only [go_sem]
      refine hKR4 _ ?_
      refine hK8 _ ?_
      refine awp_f rfl ?_
      refine awp_skip ?_
      refine hK6 _ ?_
      refine awp_plain 2 (by kernel_rfl) rfl (fun g6 hg6 => ?_)
      simp only [go_sem]
      try simp (disch := omega) only [wrapN]
      refine ⟨_, ?_, k + 1, τ2, hlt, rfl, hI2, let_of rfl ?_⟩
      · omega
      simp only [go_sem]
      omega
    · have : k = c.length := by omega
      subst this
      refine awp_seq_k (fun K9 hK9 => ?_)
      refine awp_plain 1 (by kernel_rfl) rfl (fun g2 hg2 => ?_)
      simp only [go_sem, hlt]
      refine hK9 _ ?_
      refine awp_seq_k (fun K10 hK10 => ?_)
      refine awp_f rfl ?_
      refine awp_exit ?_
      refine hK2 _ ?_
      refine awp_seq_k (fun K11 hK11 => ?_)
      refine awp_plain 1 (by kernel_rfl) rfl (fun g7 hg7 => ?_)
      simp only [go_sem]
      refine hK11 _ ?_
      refine awp_ret ?_
      refine ends_tail (own := []) rfl rfl (by simp [go_sem]) (hI) ?_
      simp only [go_sem]
      exact Co.refl _
theorem containsK_calls (c : List Ex) (hc : c.length ≤ 9223372036854775807) (q : Nat) (I : Nat → Sto → Prop) (h : ∀ i (hi : i < c.length), IC E 159 [encEx c[i], .ptr ⟨q, 3, 0⟩ 0] (I i) (I (i + 1)) (dB false)) :
    IC E 160 [slEx c, stopD q] (I 0) (I c.length) (dB false) := by
  refine icalls_of_awp (fn := Tryz.f160) (N := 9) Tryz.call160 Tryz.func160 rfl rfl (by simp) (fun g d τ hτ => ?_)
  simp only [go_sem]
  refine awp_seq_k (fun K1 hK1 => ?_)
  refine awp_plain 1 (by kernel_rfl) rfl (fun g0 hg0 => ?_)
  simp only [go_sem]
  refine hK1 _ ?_
  refine awp_seq_k (fun K2 hK2 => ?_)
  refine awp_ops (by kernel_rfl) rfl (fun g1 hg1 ops1 KR1 hops1 hKR1 => ?_)
  refine aops_eval 2 hops1 ?_
  simp only [go_sem]
  refine aops_icall (own := []) (τ := τ) hops1 rfl rfl rfl (indexK_calls c hc q I h) (CoL.refl _) rfl (fun p hp => nomatch hp) hτ (fun τ2 hI2 _ => ?_)
  refine aops_last 2 hops1 ?_
  simp only [go_sem]
  refine hKR1 _ ?_
  refine hK2 _ ?_
  refine awp_ret ?_
  refine ends_tail (own := []) rfl rfl (by simp [go_sem]) (hI2) ?_
  simp only [go_sem]
  exact Co.of_eq rfl
theorem stop_calls (e : Ex) (n : Nm) (q : Nat) (Pre Post : Sto → Prop) (h : IC E 128 [encEx e, .yld n] Pre Post (dB true)) :
    IC E 159 [encEx e, .ptr ⟨q, 3, 0⟩ 0] (bx n q Pre) (bx n q Post) (dB false) := by
  refine icalls_of_awp (fn := Tryz.f159) (N := 8) Tryz.call159 Tryz.func159 rfl rfl (by simp) (fun g d τ hτ => ?_)
  simp only [go_sem]
  refine awp_seq_k (fun K1 hK1 => ?_)
  obtain ⟨τ0, rfl, hP, hq⟩ := hτ
  refine awp_plain 2 (by kernel_rfl) rfl (fun g0 hg0 => ?_)
  simp only [go_sem]
  refine hK1 _ ?_
  refine awp_seq_k (fun K2 hK2 => ?_)
  refine awp_ops (by kernel_rfl) rfl (fun g1 hg1 ops1 KR1 hops1 hKR1 => ?_)
  refine aops_eval 2 hops1 ?_
  simp only [go_sem]
  have hf : get τ0 ⟨g0, 2, 0⟩ = none := by simpa [go_sem] using hg0 2 0
  refine aops_icall (own := [_, _]) (τ := τ0) hops1 rfl rfl rfl h (CoL.refl _) rfl (fun p hp => ?_) hP (fun τ2 hP2 hX => ?_)
  · rcases List.mem_cons.1 hp with rfl | hp
    · exact hf
    · rw [List.mem_singleton.1 hp]; exact hq
  refine aops_last 2 hops1 ?_
  simp only [go_sem]
  refine hKR1 _ ?_
  refine hK2 _ ?_
  refine awp_ret ?_
  have h2 := hX _ List.mem_cons_self
  have h3 := hX _ (List.mem_cons_of_mem _ List.mem_cons_self)
  refine ends_tail (own := [_]) rfl rfl (fun p hp => ?_) ⟨τ2, rfl, hP2, h3⟩ ?_
  · rw [List.mem_singleton.1 hp]
    simpa [go_sem] using h2
  simp only [go_sem]
  exact Co.of_eq rfl
end Go.Proofs.T


namespace Go.Proofs.T
open Go Go.Ab Go.RowKit

/-- How many nodes there are at a kid. -/
def offK (c : List Ex) (i : Nat) : Nat := 1 + (nodesExs (c.take i)).length

set_option maxRecDepth 100000 in
theorem visit_calls (n : Nm) : ∀ (e : Ex), okEx e → ∀ I : Nat → Sto → Prop, (∀ j x, (nodesEx e)[j]? = some x → YC E n (encEx x) (I j) (I (j + 1))) → IC E 128 [encEx e, .yld n] (I 0) (I (nodesEx e).length) (dB true) := by
  intro e
  induction e using Ex.ind with
  | h e ih =>
  intro hok I hY
  obtain ⟨o1, o2, o3, o4, o5⟩ := (okEx_iff e).1 hok
  have hne := nodesEx_eq e
  refine icalls_of_awp (fn := Tryz.f128) (N := 16) Tryz.call128 Tryz.func128 rfl rfl (by simp) (fun g d τ hτ => ?_)
  simp only [go_sem]
  refine awp_seq_k (fun K1 hK1 => ?_)
  refine awp_plain 3 (by kernel_rfl) rfl (fun g0 hg0 => ?_)
  simp only [go_sem]
  refine hK1 _ ?_
  refine awp_seq_k (fun K2 hK2 => ?_)
  refine awp_seq_k (fun K3 hK3 => ?_)
  have hf2 : get τ ⟨g0, 2, 0⟩ = none := by simpa [go_sem] using hg0 2 0
  have hf3 : get τ ⟨g0, 3, 0⟩ = none := by simpa [go_sem] using hg0 3 0
  refine awp_ops (by kernel_rfl) rfl (fun g1 hg1 ops1 KR1 hops1 hKR1 => ?_)
  refine aops_eval 2 hops1 ?_
  simp only [go_sem]
  refine aops_yield (own := [_, _]) (τ := τ) hops1 rfl rfl rfl rfl rfl rfl (hY 0 e (by rw [hne]; rfl)) (Co.refl _) rfl (fun p hp => ?_) hτ (fun τ2 hI2 hX => ?_)
  · rcases List.mem_cons.1 hp with rfl | hp
    · exact hf3
    · rw [List.mem_singleton.1 hp]; exact hf2
  refine aops_last 1 hops1 ?_
  simp only [go_sem]
  refine hKR1 _ ?_
  refine hK3 _ ?_
  refine awp_f rfl ?_
  refine awp_skip ?_
  refine hK2 _ ?_
  refine awp_seq_k (fun K4 hK4 => ?_)
  have h3 := hX _ List.mem_cons_self
  have h2 := hX _ (List.mem_cons_of_mem _ List.mem_cons_self)
  clear hX
  refine awp_keepT (st' := { env := [(2, .ptr ⟨g0, 2, 0⟩ 0), (3, .ptr ⟨g0, 3, 0⟩ 0)], σ := (⟨g0, 2, 0⟩, .box 28 (exC e)) :: (⟨g0, 3, 0⟩, .box 52 [.yld n]) :: τ2 }) ⟨leE_spec ?_, ?_⟩ ?_
  · simp only [go_sem]
    try trivial
  · intro m o hm
    simp only [Ab.get] at hm ⊢
    by_cases a : (⟨g0, 2, 0⟩ : Nm) = m
    · have b : ¬ (⟨g0, 3, 0⟩ : Nm) = m := by rw [← a]; simp
      rw [if_pos a] at hm
      rw [if_neg b, if_pos a]
      exact hm
    · rw [if_neg a] at hm
      by_cases b : (⟨g0, 3, 0⟩ : Nm) = m
      · rw [if_pos b] at hm ⊢
        exact hm
      · rw [if_neg b] at hm
        rw [if_neg b, if_neg a]
        exact hm
  refine awp_plain 2 (by kernel_rfl) rfl (fun g3 hg3 => ?_)
  simp only [go_sem]
  refine hK4 _ ?_
  refine awp_seq_k (fun K5 hK5 => ?_)
  refine awp_ops (by kernel_rfl) rfl (fun g4 hg4 ops4 KR4 hops4 hKR4 => ?_)
  refine aops_eval 3 hops4 ?_
  simp only [go_sem]
  refine aops_icall (own := [_]) (τ := (⟨g0, 3, 0⟩, .box 52 [.yld n]) :: τ2) hops4 rfl rfl rfl (containsK_calls e.kids o4 g0 (fun i => bx n g0 (I (offK e.kids i))) (fun i hi => ?_)) (CoL.refl _) rfl (fun p hp => ?_) ⟨τ2, rfl, hI2, h3⟩ (fun τ3 hI3 hX => ?_)
  · refine stop_calls _ n g0 _ _ ?_
    have hlen : offK e.kids (i + 1) = offK e.kids i + (nodesEx e.kids[i]).length := by
      unfold offK
      rw [nodesExs_take e.kids i hi, List.length_append]
      omega
    rw [hlen]
    refine ih _ (List.getElem_mem hi) (o5 _ (List.getElem_mem hi)) (fun j => I (offK e.kids i + j)) (fun j x hx => ?_)
    have := hY (offK e.kids i + j) x (by
      rw [hne]
      have := nodesExs_get e.kids i hi j x hx
      have e1 : offK e.kids i + j = ((nodesExs (e.kids.take i)).length + j) + 1 := by unfold offK; omega
      rw [e1, List.getElem?_cons_succ]
      exact this)
    exact this
  · rw [List.mem_singleton.1 hp]
    simpa [go_sem] using h2
  refine aops_last 2 hops4 ?_
  simp only [go_sem]
  refine hKR4 _ ?_
  refine hK5 _ ?_
  refine awp_ret ?_
  obtain ⟨τ4, rfl, hI4, h4⟩ := hI3
  have h5 := hX _ List.mem_cons_self
  have hlast : offK e.kids e.kids.length = (nodesEx e).length := by
    unfold offK
    rw [List.take_length, hne]
    simp
    omega
  rw [hlast] at hI4
  refine ends_tail (own := [_, _]) (τ := τ4) rfl rfl (fun p hp => ?_) hI4 ?_
  · rcases List.mem_cons.1 hp with rfl | hp
    · simpa [go_sem] using h5
    · rw [List.mem_singleton.1 hp]; exact h4
  simp only [go_sem]
  exact Co.of_eq rfl

theorem all1_calls (e : Ex) (h : okEx e) (n : Nm) (I : Nat → Sto → Prop) (hY : ∀ k (hk : k < ((nodesEx e).map encEx).length), YC E n ((nodesEx e).map encEx)[k] (I k) (I (k + 1))) :
    IC E 127 [.yld n, .eptr (exC e)] (I 0) (I ((nodesEx e).map encEx).length) (.tup []) := by
  have hY' : ∀ j x, (nodesEx e)[j]? = some x → YC E n (encEx x) (I j) (I (j + 1)) := fun j x hx => by
    have hj := (List.getElem?_eq_some_iff.1 hx).1
    have := hY j (by simpa using hj)
    have e1 : (nodesEx e)[j] = x := (List.getElem?_eq_some_iff.1 hx).2
    simpa [e1] using this
  refine icalls_of_awp (fn := Tryz.f127) (N := 6) Tryz.call127 Tryz.func127 rfl rfl (by simp) (fun g d τ hτ => ?_)
  simp only [go_sem]
  refine awp_ops (by kernel_rfl) rfl (fun g0 hg0 ops0 KR0 hops0 hKR0 => ?_)
  refine aops_eval 2 hops0 ?_
  simp only [go_sem]
  refine aops_icall (own := []) (τ := τ) hops0 rfl rfl rfl (visit_calls n e h I hY') (CoL.refl _) rfl (fun p hp => nomatch hp) hτ (fun τ2 hI2 _ => ?_)
  refine aops_last 0 hops0 ?_
  simp only [go_sem]
  refine hKR0 _ ?_
  refine ends_tail (own := []) rfl rfl (by simp [go_sem]) (hI2) ?_
  simp only [go_sem]
  exact Co.refl _
theorem allX_calls (e : Ex) (g d : Nat) : ACalls E 93 [encEx e] [] g d (.func (.func 127) [] [.eptr (exC e)]) [] := by
  refine acalls_of_awp (fn := Tryz.f93) (N := 4) Tryz.call93 Tryz.func93 rfl rfl (by simp) ?_
  simp only [go_sem]
  refine awp_seq_k (fun K1 hK1 => ?_)
  refine awp_plain 2 (by kernel_rfl) rfl (fun g0 hg0 => ?_)
  simp only [go_sem]
  refine hK1 _ ?_
  refine awp_seq_k (fun K2 hK2 => ?_)
  refine awp_still ⟨g0, 1, 0⟩ ?_
  simp only [go_sem]
  refine awp_plain 2 (by kernel_rfl) rfl (fun g1 hg1 => ?_)
  simp only [go_sem]
  refine hK2 _ ?_
  refine awp_ret ?_
  refine ends_ev rfl ?_
  simp only [go_sem]
  exact Co.refl _
end Go.Proofs.T


namespace Go.Proofs.T
open Go Go.Ab Go.RowKit

/-! ## How many types there are -/

theorem cnt_sum {α : Type} {f : α → Nat → Nat} {w : α → Nat} (hf : ∀ a n, n ≤ f a n) : ∀ (l : List α) (n : Nat), (∀ a ∈ l, ∀ n, f a n ≤ 2000 → n + w a ≤ f a n) → cnt f l n ≤ 2000 → n + (l.map w).sum ≤ cnt f l n
  | [], n, _, _ => by simp [cnt]
  | a :: r, n, h, hc => by
    have hn : n ≤ 2000 := by
      simp only [cnt] at hc
      split at hc
      · assumption
      · exact hc
    simp only [cnt] at hc ⊢
    rw [if_pos hn] at hc ⊢
    have h1 := cnt_ge hf r (f a n)
    have h2 := h a List.mem_cons_self n (by omega)
    have h3 := cnt_sum hf r (f a n) (fun x hx => h x (List.mem_cons_of_mem _ hx)) hc
    simp only [List.map_cons, List.sum_cons]
    omega

def wN (l : List Ty) : Nat := (namesTys l).length
theorem wN_nil : wN [] = 0 := rfl
theorem wN_cons (t : Ty) (l : List Ty) : wN (t :: l) = (namesTy t).length + wN l := by simp [wN, namesTys]
theorem wN_app (a b : List Ty) : wN (a ++ b) = wN a + wN b := by simp [wN, namesTys_app]
theorem wN_flat {α : Type} (f : α → List Ty) : ∀ l : List α, wN (l.flatMap f) = (l.map (fun a => wN (f a))).sum
  | [] => rfl
  | a :: r => by rw [List.flatMap_cons, wN_app, wN_flat f r]; rfl
theorem wN_map {α : Type} (f : α → Ty) : ∀ l : List α, wN (l.map f) = (l.map (fun a => (namesTy (f a)).length)).sum
  | [] => rfl
  | a :: r => by rw [List.map_cons, wN_cons, wN_map f r]; rfl
theorem wN_len : ∀ l : List Ty, l.length ≤ wN l
  | [] => Nat.le_refl _
  | t :: l => by
    have h1 := namesTy_pos t
    have h2 := wN_len l
    rw [wN_cons, List.length_cons]
    omega
theorem wN_mem {t : Ty} : ∀ {l : List Ty}, t ∈ l → (namesTy t).length ≤ wN l
  | [], h => by cases h
  | x :: l, h => by
    rw [wN_cons]
    rcases List.mem_cons.1 h with rfl | h
    · omega
    · have := wN_mem h; omega
theorem wN_self (l : List Ty) : (l.map (fun t => (namesTy t).length)).sum = wN l := by
  have := wN_map (fun t : Ty => t) l
  rw [List.map_id'] at this
  exact this.symm

def exTys (e : Ex) : List Ty := (nodesEx e).flatMap (fun x => x.type :: x.targs)
def siTys (s : Sig) : List Ty := s.formals.map (·.bound) ++ s.params.map (·.type) ++ [s.result]
def deTys (d : Dec) : List Ty := d.formals.map (·.bound) ++ d.fields.map (·.type) ++ d.sigs.flatMap siTys ++ siTys d.sig ++ exTys d.body
def prTys (p : Prg) : List Ty := p.decls.flatMap deTys ++ exTys p.main

theorem nodesExs_flat : ∀ l : List Ex, nodesExs l = l.flatMap nodesEx
  | [] => rfl
  | e :: l => by rw [nodesExs, nodesExs_flat l]; rfl
theorem exTys_eq (e : Ex) : exTys e = (e.type :: e.targs) ++ e.kids.flatMap exTys := by
  unfold exTys
  rw [nodesEx_eq, List.flatMap_cons, nodesExs_flat, List.flatMap_assoc]

theorem count_ge' (t : Ty) (n : Nat) : n ≤ count t n := by have := count_ge t n; omega
theorem count_w : ∀ (t : Ty) (n : Nat), count t n ≤ 2000 → n + (namesTy t).length ≤ count t n := by
  refine Ty.ind fun t ih n h => ?_
  rw [count_eq, countL_cnt] at h ⊢
  have := cnt_sum (w := fun t => (namesTy t).length) count_ge' t.args _ (fun a ha n hn => ih a ha n hn) h
  rw [wN_self] at this
  rw [namesTy_eq]
  simp only [List.length_cons]
  unfold wN at this
  omega
theorem counts_w (l : List Ty) (n : Nat) (h : cnt count l n ≤ 2000) : n + wN l ≤ cnt count l n := by
  have := cnt_sum (w := fun t => (namesTy t).length) count_ge' l n (fun a _ n hn => count_w a n hn) h
  rwa [wN_self] at this
theorem countEx_ge' (e : Ex) (n : Nat) : n ≤ countEx e n := by have := countEx_ge e n; omega
theorem countEx_w : ∀ (e : Ex) (n : Nat), countEx e n ≤ 2000 → n + wN (exTys e) ≤ countEx e n := by
  refine Ex.ind fun e ih n h => ?_
  rw [countEx_eq] at h ⊢
  have g := cnt_ge countEx_ge' e.kids (cnt count e.targs (count e.type (n + e.name.size / 50)))
  have g2 := cnt_ge count_ge' e.targs (count e.type (n + e.name.size / 50))
  have h3 := cnt_sum (w := fun x => wN (exTys x)) countEx_ge' e.kids _ (fun a ha n hn => ih a ha n hn) h
  have h2 := counts_w e.targs (count e.type (n + e.name.size / 50)) (by omega)
  have h1 := count_w e.type (n + e.name.size / 50) (by omega)
  rw [exTys_eq, wN_app, wN_cons, wN_flat]
  omega
theorem cntFm_ge' (f : Formal) (n : Nat) : n ≤ cntFm f n := Nat.le_trans (Nat.le_succ n) (cntFm_ge f n)
theorem cntPa_ge' (f : Param) (n : Nat) : n ≤ cntPa f n := Nat.le_trans (Nat.le_succ n) (cntPa_ge f n)
theorem cntSi_ge' (f : Sig) (n : Nat) : n ≤ cntSi f n := Nat.le_trans (Nat.le_succ n) (cntSi_ge f n)
theorem cntS_ge' (f : Str) (n : Nat) : n ≤ cntS f n := Nat.le_trans (Nat.le_succ n) (cntS_ge f n)
theorem cntDe_ge' (f : Dec) (n : Nat) : n ≤ cntDe f n := Nat.le_trans (Nat.le_succ n) (cntDe_ge f n)
theorem cntFms_w (l : List Formal) (n : Nat) (h : cnt cntFm l n ≤ 2000) : n + wN (l.map (·.bound)) ≤ cnt cntFm l n := by
  rw [wN_map]
  exact cnt_sum cntFm_ge' l n (fun a _ n hn => by
    have := count_w a.bound (n + 1 + a.name.size / 50) hn
    unfold cntFm; omega) h
theorem cntPas_w (l : List Param) (n : Nat) (h : cnt cntPa l n ≤ 2000) : n + wN (l.map (·.type)) ≤ cnt cntPa l n := by
  rw [wN_map]
  exact cnt_sum cntPa_ge' l n (fun a _ n hn => by
    have := count_w a.type (n + 1 + a.name.size / 50) hn
    unfold cntPa; omega) h
theorem cntSi_w (s : Sig) (n : Nat) (h : cntSi s n ≤ 2000) : n + wN (siTys s) ≤ cntSi s n := by
  have h1 := cnt_ge cntFm_ge' s.formals (n + s.name.size / 50)
  have h2 := cnt_ge cntPa_ge' s.params (cnt cntFm s.formals (n + s.name.size / 50))
  have h3 := count_ge s.result (cnt cntPa s.params (cnt cntFm s.formals (n + s.name.size / 50)))
  have e0 : cntSi s n = count s.result (cnt cntPa s.params (cnt cntFm s.formals (n + s.name.size / 50))) := rfl
  rw [e0] at h ⊢
  have a1 := cntFms_w s.formals (n + s.name.size / 50) (by omega)
  have a2 := cntPas_w s.params (cnt cntFm s.formals (n + s.name.size / 50)) (by omega)
  have a3 := count_w s.result _ h
  unfold siTys
  rw [wN_app, wN_app, wN_cons, wN_nil]
  omega
theorem cntDe_w (d : Dec) (n : Nat) (h : cntDe d n ≤ 2000) : n + wN (deTys d) ≤ cntDe d n := by
  have g1 := cnt_ge cntFm_ge' d.formals (n + 1 + d.name.size / 50 + d.recv.size / 50)
  have g2 := cnt_ge cntPa_ge' d.fields (cnt cntFm d.formals (n + 1 + d.name.size / 50 + d.recv.size / 50))
  have g3 := cnt_ge cntSi_ge' d.sigs (cntHead d n)
  have g4 := cnt_ge cntS_ge' d.vars (cnt cntSi d.sigs (cntHead d n))
  have g5 := cntSi_ge d.sig (cnt cntS d.vars (cnt cntSi d.sigs (cntHead d n)))
  have g6 := countEx_ge d.body (cntSi d.sig (cnt cntS d.vars (cnt cntSi d.sigs (cntHead d n))))
  have e0 : cntHead d n = cnt cntPa d.fields (cnt cntFm d.formals (n + 1 + d.name.size / 50 + d.recv.size / 50)) := rfl
  unfold cntDe cntTail at h ⊢
  split at h
  · rename_i hc
    rw [if_pos hc]
    have a1 := cntFms_w d.formals (n + 1 + d.name.size / 50 + d.recv.size / 50) (by omega)
    have a2 := cntPas_w d.fields (cnt cntFm d.formals (n + 1 + d.name.size / 50 + d.recv.size / 50)) (by omega)
    have a3 := cnt_sum (w := fun s => wN (siTys s)) cntSi_ge' d.sigs (cntHead d n) (fun a _ n hn => cntSi_w a n hn) (by omega)
    have a7 := cntSi_w d.sig (cnt cntS d.vars (cnt cntSi d.sigs (cntHead d n))) (by omega)
    have a8 := countEx_w d.body (cntSi d.sig (cnt cntS d.vars (cnt cntSi d.sigs (cntHead d n)))) (by omega)
    unfold deTys
    rw [wN_app, wN_app, wN_app, wN_app, wN_flat]
    omega
  · omega
theorem cntPr_w (p : Prg) (h : cntPr p ≤ 600) : wN (prTys p) ≤ 600 := by
  unfold cntPr at h
  have g1 := countEx_ge p.main 0
  have g2 := cnt_ge cntDe_ge' p.decls (countEx p.main 0)
  have a1 := cnt_sum (w := fun d => wN (deTys d)) cntDe_ge' p.decls (countEx p.main 0) (fun a _ n hn => cntDe_w a n hn) (by omega)
  have a2 := countEx_w p.main 0 (by omega)
  unfold prTys
  rw [wN_app, wN_flat]
  omega
end Go.Proofs.T


namespace Go.Proofs.T
open Go Go.Ab Go.RowKit

/-! ## Expressions that are right -/

noncomputable def typed (e : Ex) : Bool := decide (e.kind = 3) || decide (e.kind = 5)
noncomputable def kidsOk (e : Ex) : Bool :=
  if e.kind = 1 then decide ((e.kids.length : Int) = 0) else if e.kind = 2 then decide ((e.kids.length : Int) ≥ 1) else if e.kind = 3 then true else if e.kind = 4 ∨ e.kind = 5 then decide ((e.kids.length : Int) = 1) else false
noncomputable def typOk (e : Ex) : Bool :=
  if typed e then rightTy e.type && decide (e.name = (⟨#[]⟩ : ByteArray)) else !rightTy e.type && (decide (e.type.name = (⟨#[]⟩ : ByteArray)) && (decide (e.type.args.length = 0) && nmOk e.name))
noncomputable def headOk (e : Ex) : Bool := e.targs.all (fun t => decide (e.kind = 2) && rightTy t) && (typOk e && kidsOk e)
mutual
noncomputable def rightEx : Ex → Bool
  | .mk k n t ta ks p => rightExs ks && headOk (.mk k n t ta ks p)
noncomputable def rightExs : List Ex → Bool
  | [] => true
  | e :: r => rightEx e && rightExs r
end
theorem rightExs_all : ∀ l, rightExs l = l.all rightEx
  | [] => rfl
  | e :: r => by rw [rightExs, rightExs_all r]; rfl
theorem rightEx_eq (e : Ex) : rightEx e = (e.kids.all rightEx && headOk e) := by
  cases e
  rw [rightEx, rightExs_all]
  rfl
theorem wN_kid {e x : Ex} (h : x ∈ e.kids) : wN (exTys x) ≤ wN (exTys e) := by
  rw [exTys_eq e, wN_app]
  have : ∀ l : List Ex, x ∈ l → wN (exTys x) ≤ wN (l.flatMap exTys) := by
    intro l
    induction l with
    | nil => intro h; cases h
    | cons y r ih =>
      intro h
      rw [List.flatMap_cons, wN_app]
      rcases List.mem_cons.1 h with rfl | h
      · omega
      · have := ih h; omega
  have := this e.kids h
  omega
theorem wN_type (e : Ex) : (namesTy e.type).length ≤ wN (exTys e) := by
  refine wN_mem ?_
  rw [exTys_eq]
  simp
theorem wN_targ {e : Ex} {t : Ty} (h : t ∈ e.targs) : (namesTy t).length ≤ wN (exTys e) := by
  refine wN_mem ?_
  rw [exTys_eq]
  simp [h]

set_option maxRecDepth 100000 in
theorem rightEx_calls : ∀ e : Ex, okEx e → wN (exTys e) ≤ 1000000 → ∀ g d, ACalls E 22 [encEx e] [] g d (dB (rightEx e)) [] := by
  refine Ex.ind fun e ih he hw g d => ?_
  obtain ⟨h1, h2, ⟨h3, h4⟩, h5, h6⟩ := (okEx_iff e).1 he
  refine acalls_of_awp (fn := Tryz.f22) (N := 108) Tryz.call22 Tryz.func22 rfl rfl (by simp) ?_
  simp only [go_sem]
  refine awp_seq_k (fun K1 hK1 => ?_)
  refine awp_plain 2 (by kernel_rfl) rfl (fun g0 hg0 => ?_)
  simp only [go_sem]
  refine hK1 _ ?_
  refine awp_seq_k (fun K2 hK2 => ?_)
  refine awp_seq_k (fun K3 hK3 => ?_)
  refine awp_plain 1 (by kernel_rfl) rfl (fun g1 hg1 => ?_)
  simp only [go_sem]
  refine hK3 _ ?_
  refine awp_block ?_
  refine awp_loop (fun m s => ∃ k, k ≤ e.kids.length ∧ m = e.kids.length - k ∧ (e.kids.take k).all rightEx = true ∧ Le { env := [(1, .ptr ⟨g0, 1, 0⟩ 0), (3, dN k)], σ := [(⟨g0, 1, 0⟩, .box 28 (exC e))] } s) e.kids.length ?_ ?_
  · refine ⟨0, Nat.zero_le _, rfl, rfl, le_of ?_⟩
    simp only [go_sem]
    trivial
  · rintro m s ⟨k, hk, rfl, hall, hle⟩
    refine awp_keep hle ?_
    clear hle
    refine awp_seq_k (fun K4 hK4 => ?_)
    refine awp_seq_k (fun K5 hK5 => ?_)
    by_cases hlt : k < e.kids.length
    · have htake : (e.kids.take (k + 1)).all rightEx = rightEx e.kids[k] := by
        rw [List.take_add_one, List.getElem?_eq_getElem hlt, List.all_append, hall]
        simp
      refine awp_plain 5 (by kernel_rfl) rfl (fun g2 hg2 => ?_)
      simp only [go_sem, hlt]
      refine hK5 _ ?_
      refine awp_t rfl ?_
      refine awp_skip ?_
      refine hK4 _ ?_
      refine awp_seq_k (fun K6 hK6 => ?_)
      refine awp_block ?_
      refine awp_seq_k (fun K7 hK7 => ?_)
      refine awp_ops (by kernel_rfl) rfl (fun g4 hg4 ops4 KR4 hops4 hKR4 => ?_)
      refine aops_eval 5 hops4 ?_
      simp only [go_sem, getM hlt]
      cases hb : rightEx e.kids[k] with
      | false =>
        have hf : rightEx e = false := by
          rw [rightEx_eq]
          have : e.kids.all rightEx = false := by
            rw [List.all_eq_false]
            exact ⟨_, List.getElem_mem hlt, by rw [hb]; decide⟩
          rw [this]; rfl
        refine aops_pure hops4 rfl rfl rfl (ih _ (List.getElem_mem hlt) (h6 _ (List.getElem_mem hlt)) (Nat.le_trans (wN_kid (List.getElem_mem hlt)) hw) _ _) (CoL.refl _) ?_
        refine aops_last 1 hops4 ?_
        simp only [go_sem, hb, Bool.not_false]
        refine hKR4 _ ?_
        refine hK7 _ ?_
        refine awp_t rfl ?_
        refine awp_seq_k (fun K8 hK8 => ?_)
        refine awp_plain 1 (by kernel_rfl) rfl (fun g5 hg5 => ?_)
        simp only [go_sem]
        refine hK8 _ ?_
        refine awp_ret ?_
        refine ends_ev rfl ?_
        simp only [go_sem]
        exact Co.of_eq (by rw [hf])
      | true =>
        refine aops_pure hops4 rfl rfl rfl (ih _ (List.getElem_mem hlt) (h6 _ (List.getElem_mem hlt)) (Nat.le_trans (wN_kid (List.getElem_mem hlt)) hw) _ _) (CoL.refl _) ?_
        refine aops_last 1 hops4 ?_
        simp only [go_sem, hb, Bool.not_true]
        refine hKR4 _ ?_
        refine hK7 _ ?_
        refine awp_f rfl ?_
        refine awp_skip ?_
        refine hK6 _ ?_
        refine awp_plain 3 (by kernel_rfl) rfl (fun g3 hg3 => ?_)
        simp only [go_sem]
        try simp (disch := omega) only [wrapN]
        refine ⟨_, ?_, k + 1, hlt, rfl, by rw [htake, hb], le_of ?_⟩
        · omega
        simp only [go_sem]
        omega
    · have : k = e.kids.length := by omega
      subst this
      rw [List.take_length] at hall
      refine awp_plain 5 (by kernel_rfl) rfl (fun g2 hg2 => ?_)
      simp only [go_sem, hlt]
      refine hK5 _ ?_
      refine awp_f rfl ?_
      refine awp_exit ?_
      refine hK2 _ ?_
      refine awp_seq_k (fun K9 hK9 => ?_)
      refine awp_seq_k (fun K10 hK10 => ?_)
      refine awp_plain 1 (by kernel_rfl) rfl (fun g6 hg6 => ?_)
      simp only [go_sem]
      refine hK10 _ ?_
      refine awp_block ?_
      refine awp_loop (fun m s => ∃ k, k ≤ e.targs.length ∧ m = e.targs.length - k ∧ (e.targs.take k).all (fun t => decide (e.kind = 2) && rightTy t) = true ∧ Le { env := [(1, .ptr ⟨g0, 1, 0⟩ 0), (4, dN k)], σ := [(⟨g0, 1, 0⟩, .box 28 (exC e))] } s) e.targs.length ?_ ?_
      · refine ⟨0, Nat.zero_le _, rfl, rfl, le_of ?_⟩
        simp only [go_sem]
        trivial
      · rintro m s ⟨k, hk, rfl, hall2, hle⟩
        refine awp_keep hle ?_
        clear hle
        refine awp_seq_k (fun K11 hK11 => ?_)
        refine awp_seq_k (fun K12 hK12 => ?_)
        by_cases hlt : k < e.targs.length
        · have htake : (e.targs.take (k + 1)).all (fun t => decide (e.kind = 2) && rightTy t) = (decide (e.kind = 2) && rightTy e.targs[k]) := by
            rw [List.take_add_one, List.getElem?_eq_getElem hlt, List.all_append, hall2]
            simp
          refine awp_plain 5 (by kernel_rfl) rfl (fun g7 hg7 => ?_)
          simp only [go_sem, hlt]
          refine hK12 _ ?_
          refine awp_t rfl ?_
          refine awp_skip ?_
          refine hK11 _ ?_
          refine awp_seq_k (fun K13 hK13 => ?_)
          refine awp_block ?_
          refine awp_seq_k (fun K14 hK14 => ?_)
          by_cases k2 : e.kind = 2
          · cases hb : rightTy e.targs[k] with
            | false =>
              have hbad : headOk e = false := by
                unfold headOk
                rw [List.all_eq_false.2 ⟨_, List.getElem_mem hlt, by simp only [hb, Bool.and_false]; decide⟩]
                rfl
              refine awp_ops (by kernel_rfl) rfl (fun g9 hg9 ops9 KR9 hops9 hKR9 => ?_)
              refine aops_eval 9 hops9 ?_
              simp only [go_sem, getM hlt, k2, decide_true, Bool.not_true]
              refine aops_pure hops9 rfl rfl rfl (right04_calls _ (h4 _ (List.getElem_mem hlt)) (Nat.le_trans (wN_targ (List.getElem_mem hlt)) hw) _ _) (CoL.refl _) ?_
              refine aops_last 2 hops9 ?_
              simp only [go_sem, hb, Bool.not_false]
              refine hKR9 _ ?_
              refine hK14 _ ?_
              refine awp_t rfl ?_
              refine awp_seq_k (fun K15 hK15 => ?_)
              refine awp_plain 1 (by kernel_rfl) rfl (fun g10 hg10 => ?_)
              simp only [go_sem]
              refine hK15 _ ?_
              refine awp_ret ?_
              refine ends_ev rfl ?_
              simp only [go_sem]
              exact Co.of_eq (by rw [rightEx_eq, hbad, Bool.and_false])
            | true =>
              refine awp_ops (by kernel_rfl) rfl (fun g9 hg9 ops9 KR9 hops9 hKR9 => ?_)
              refine aops_eval 9 hops9 ?_
              simp only [go_sem, getM hlt, k2, decide_true, Bool.not_true]
              refine aops_pure hops9 rfl rfl rfl (right04_calls _ (h4 _ (List.getElem_mem hlt)) (Nat.le_trans (wN_targ (List.getElem_mem hlt)) hw) _ _) (CoL.refl _) ?_
              refine aops_last 2 hops9 ?_
              simp only [go_sem, hb, Bool.not_true]
              refine hKR9 _ ?_
              refine hK14 _ ?_
              refine awp_f rfl ?_
              refine awp_skip ?_
              refine hK13 _ ?_
              refine awp_plain 3 (by kernel_rfl) rfl (fun g8 hg8 => ?_)
              simp only [go_sem]
              try simp (disch := omega) only [wrapN]
              refine ⟨_, ?_, k + 1, hlt, rfl, by rw [htake, hb]; simp [k2], le_of ?_⟩
              · omega
              simp only [go_sem, k2]
              try trivial
              try omega
          · have hbad : headOk e = false := by
              unfold headOk
              rw [List.all_eq_false.2 ⟨_, List.getElem_mem hlt, by simp [k2]⟩]
              rfl
            refine awp_plain 12 (by kernel_rfl) rfl (fun g9 hg9 => ?_)
            simp only [go_sem, k2, decide_false, Bool.not_false]
            refine hK14 _ ?_
            refine awp_t rfl ?_
            refine awp_seq_k (fun K16 hK16 => ?_)
            refine awp_plain 1 (by kernel_rfl) rfl (fun g10 hg10 => ?_)
            simp only [go_sem]
            refine hK16 _ ?_
            refine awp_ret ?_
            refine ends_ev rfl ?_
            simp only [go_sem]
            exact Co.of_eq (by rw [rightEx_eq, hbad, Bool.and_false])
        · have : k = e.targs.length := by omega
          subst this
          rw [List.take_length] at hall2
          refine awp_plain 5 (by kernel_rfl) rfl (fun g7 hg7 => ?_)
          simp only [go_sem, hlt]
          refine hK12 _ ?_
          refine awp_f rfl ?_
          refine awp_exit ?_
          refine hK9 _ ?_
          refine awp_seq_k (fun K17 hK17 => ?_)
          have hR : rightEx e = (typOk e && kidsOk e) := by
            rw [rightEx_eq, hall]
            unfold headOk
            rw [hall2]
            rfl
          by_cases k3 : e.kind = 3
          · have q3 : (e.kind = 3) = True := eq_true k3
            have q5 : (e.kind = 5) = False := eq_false (by omega)
            have q1 : (e.kind = 1) = False := eq_false (by omega)
            have q2 : (e.kind = 2) = False := eq_false (by omega)
            cases hr : rightTy e.type with
            | false =>
              refine awp_plain 9 (by kernel_rfl) rfl (fun g11 hg11 => ?_)
              simp only [go_sem, q3, decide_true]
              refine hK17 _ ?_
              refine awp_seq_k (fun K18 hK18 => ?_)
              refine awp_seq_k (fun K19 hK19 => ?_)
              refine awp_ops (by kernel_rfl) rfl (fun g12 hg12 ops12 KR12 hops12 hKR12 => ?_)
              refine aops_eval 3 hops12 ?_
              simp only [go_sem]
              refine aops_pure hops12 rfl rfl rfl (right04_calls _ h2 (Nat.le_trans (wN_type e) hw) _ _) (CoL.refl _) ?_
              refine aops_last 18 hops12 ?_
              simp only [go_sem, hr, decide_false, Bool.not_true, Bool.not_false]
              refine hKR12 _ ?_
              refine hK19 _ ?_
              refine awp_t rfl ?_
              refine awp_seq_k (fun K20 hK20 => ?_)
              refine awp_plain 1 (by kernel_rfl) rfl (fun g13 hg13 => ?_)
              simp only [go_sem]
              refine hK20 _ ?_
              refine awp_ret ?_
              refine ends_ev rfl ?_
              simp only [go_sem]
              exact Co.of_eq (by rw [hR]; simp [typOk, kidsOk, typed, k3, hr])
            | true =>
              refine awp_plain 9 (by kernel_rfl) rfl (fun g11 hg11 => ?_)
              simp only [go_sem, q3, decide_true]
              refine hK17 _ ?_
              refine awp_seq_k (fun K21 hK21 => ?_)
              refine awp_seq_k (fun K22 hK22 => ?_)
              refine awp_ops (by kernel_rfl) rfl (fun g12 hg12 ops12 KR12 hops12 hKR12 => ?_)
              refine aops_eval 3 hops12 ?_
              simp only [go_sem]
              refine aops_pure hops12 rfl rfl rfl (right04_calls _ h2 (Nat.le_trans (wN_type e) hw) _ _) (CoL.refl _) ?_
              refine aops_last 18 hops12 ?_
              simp only [go_sem, hr, decide_true, Bool.not_true]
              refine hKR12 _ ?_
              refine hK22 _ ?_
              refine awp_f rfl ?_
              refine awp_skip ?_
              refine hK21 _ ?_
              refine awp_seq_k (fun K23 hK23 => ?_)
              refine awp_seq_k (fun K24 hK24 => ?_)
              by_cases hn : e.name = (⟨#[]⟩ : ByteArray)
              · have hn' : (e.name = (⟨#[]⟩ : ByteArray)) = True := eq_true hn
                refine awp_plain 16 (by kernel_rfl) rfl (fun g14 hg14 => ?_)
                simp only [go_sem, hn', decide_true, Bool.not_true]
                refine hK24 _ ?_
                refine awp_f rfl ?_
                refine awp_skip ?_
                refine hK23 _ ?_
                refine awp_seq_k (fun K25 hK25 => ?_)
                refine awp_seq_k (fun K26 hK26 => ?_)
                refine awp_plain 2 (by kernel_rfl) rfl (fun g16 hg16 => ?_)
                simp only [go_sem]
                refine hK26 _ ?_
                refine awp_block ?_
                refine awp_seq_k (fun K27 hK27 => ?_)
                refine awp_plain 2 (by kernel_rfl) rfl (fun g17 hg17 => ?_)
                simp only [go_sem, q1, decide_false]
                refine hK27 _ ?_
                refine awp_f rfl ?_
                refine awp_seq_k (fun K28 hK28 => ?_)
                refine awp_plain 2 (by kernel_rfl) rfl (fun g19 hg19 => ?_)
                simp only [go_sem, q2, decide_false]
                refine hK28 _ ?_
                refine awp_f rfl ?_
                refine awp_seq_k (fun K29 hK29 => ?_)
                refine awp_plain 2 (by kernel_rfl) rfl (fun g21 hg21 => ?_)
                simp only [go_sem, q3, decide_true]
                refine hK29 _ ?_
                refine awp_t rfl ?_
                refine awp_seq_k (fun K30 hK30 => ?_)
                refine awp_plain 1 (by kernel_rfl) rfl (fun g22 hg22 => ?_)
                simp only [go_sem]
                refine hK30 _ ?_
                refine awp_ret ?_
                refine ends_ev rfl ?_
                simp only [go_sem]
                exact Co.of_eq (by rw [hR]; simp [typOk, kidsOk, typed, k3, hr, hn])
              · have hn' : (e.name = (⟨#[]⟩ : ByteArray)) = False := eq_false hn
                refine awp_plain 16 (by kernel_rfl) rfl (fun g14 hg14 => ?_)
                simp only [go_sem, hn', decide_false, Bool.not_true, Bool.not_false]
                refine hK24 _ ?_
                refine awp_t rfl ?_
                refine awp_seq_k (fun K31 hK31 => ?_)
                refine awp_plain 1 (by kernel_rfl) rfl (fun g15 hg15 => ?_)
                simp only [go_sem]
                refine hK31 _ ?_
                refine awp_ret ?_
                refine ends_ev rfl ?_
                simp only [go_sem]
                exact Co.of_eq (by rw [hR]; simp [typOk, kidsOk, typed, k3, hr, hn])
          · by_cases k5 : e.kind = 5
            · have q3 : (e.kind = 3) = False := eq_false (by omega)
              have q5 : (e.kind = 5) = True := eq_true k5
              have q1 : (e.kind = 1) = False := eq_false (by omega)
              have q2 : (e.kind = 2) = False := eq_false (by omega)
              have q4 : (e.kind = 4) = False := eq_false (by omega)
              cases hr : rightTy e.type with
              | false =>
                refine awp_plain 9 (by kernel_rfl) rfl (fun g11 hg11 => ?_)
                simp only [go_sem, q3, q5, decide_true, decide_false]
                refine hK17 _ ?_
                refine awp_seq_k (fun K32 hK32 => ?_)
                refine awp_seq_k (fun K33 hK33 => ?_)
                refine awp_ops (by kernel_rfl) rfl (fun g12 hg12 ops12 KR12 hops12 hKR12 => ?_)
                refine aops_eval 3 hops12 ?_
                simp only [go_sem]
                refine aops_pure hops12 rfl rfl rfl (right04_calls _ h2 (Nat.le_trans (wN_type e) hw) _ _) (CoL.refl _) ?_
                refine aops_last 18 hops12 ?_
                simp only [go_sem, hr, decide_false, Bool.not_true, Bool.not_false]
                refine hKR12 _ ?_
                refine hK33 _ ?_
                refine awp_t rfl ?_
                refine awp_seq_k (fun K34 hK34 => ?_)
                refine awp_plain 1 (by kernel_rfl) rfl (fun g13 hg13 => ?_)
                simp only [go_sem]
                refine hK34 _ ?_
                refine awp_ret ?_
                refine ends_ev rfl ?_
                simp only [go_sem]
                exact Co.of_eq (by rw [hR]; simp [typOk, kidsOk, typed, k5, hr])
              | true =>
                refine awp_plain 9 (by kernel_rfl) rfl (fun g11 hg11 => ?_)
                simp only [go_sem, q3, q5, decide_true, decide_false]
                refine hK17 _ ?_
                refine awp_seq_k (fun K35 hK35 => ?_)
                refine awp_seq_k (fun K36 hK36 => ?_)
                refine awp_ops (by kernel_rfl) rfl (fun g12 hg12 ops12 KR12 hops12 hKR12 => ?_)
                refine aops_eval 3 hops12 ?_
                simp only [go_sem]
                refine aops_pure hops12 rfl rfl rfl (right04_calls _ h2 (Nat.le_trans (wN_type e) hw) _ _) (CoL.refl _) ?_
                refine aops_last 18 hops12 ?_
                simp only [go_sem, hr, decide_true, Bool.not_true]
                refine hKR12 _ ?_
                refine hK36 _ ?_
                refine awp_f rfl ?_
                refine awp_skip ?_
                refine hK35 _ ?_
                refine awp_seq_k (fun K37 hK37 => ?_)
                refine awp_seq_k (fun K38 hK38 => ?_)
                by_cases hn : e.name = (⟨#[]⟩ : ByteArray)
                · have hn' : (e.name = (⟨#[]⟩ : ByteArray)) = True := eq_true hn
                  refine awp_plain 16 (by kernel_rfl) rfl (fun g14 hg14 => ?_)
                  simp only [go_sem, hn', decide_true, Bool.not_true]
                  refine hK38 _ ?_
                  refine awp_f rfl ?_
                  refine awp_skip ?_
                  refine hK37 _ ?_
                  refine awp_seq_k (fun K39 hK39 => ?_)
                  refine awp_seq_k (fun K40 hK40 => ?_)
                  refine awp_plain 2 (by kernel_rfl) rfl (fun g16 hg16 => ?_)
                  simp only [go_sem]
                  refine hK40 _ ?_
                  refine awp_block ?_
                  refine awp_seq_k (fun K41 hK41 => ?_)
                  refine awp_plain 2 (by kernel_rfl) rfl (fun g17 hg17 => ?_)
                  simp only [go_sem, q1, decide_false]
                  refine hK41 _ ?_
                  refine awp_f rfl ?_
                  refine awp_seq_k (fun K42 hK42 => ?_)
                  refine awp_plain 2 (by kernel_rfl) rfl (fun g19 hg19 => ?_)
                  simp only [go_sem, q2, decide_false]
                  refine hK42 _ ?_
                  refine awp_f rfl ?_
                  refine awp_seq_k (fun K43 hK43 => ?_)
                  refine awp_plain 2 (by kernel_rfl) rfl (fun g21 hg21 => ?_)
                  simp only [go_sem, q3, decide_false]
                  refine hK43 _ ?_
                  refine awp_f rfl ?_
                  refine awp_seq_k (fun K44 hK44 => ?_)
                  refine awp_seq_k (fun K45 hK45 => ?_)
                  refine awp_plain 2 (by kernel_rfl) rfl (fun g23 hg23 => ?_)
                  simp only [go_sem, q4, decide_false]
                  refine hK45 _ ?_
                  refine awp_f rfl ?_
                  refine awp_plain 2 (by kernel_rfl) rfl (fun g24 hg24 => ?_)
                  simp only [go_sem, q5, decide_true]
                  refine hK44 _ ?_
                  refine awp_t rfl ?_
                  refine awp_seq_k (fun K46 hK46 => ?_)
                  refine awp_plain 5 (by kernel_rfl) rfl (fun g25 hg25 => ?_)
                  simp only [go_sem]
                  refine hK46 _ ?_
                  refine awp_ret ?_
                  refine ends_ev rfl ?_
                  simp only [go_sem]
                  exact Co.of_eq (by rw [hR]; simp [typOk, kidsOk, typed, k5, hr, hn])
                · have hn' : (e.name = (⟨#[]⟩ : ByteArray)) = False := eq_false hn
                  refine awp_plain 16 (by kernel_rfl) rfl (fun g14 hg14 => ?_)
                  simp only [go_sem, hn', decide_false, Bool.not_true, Bool.not_false]
                  refine hK38 _ ?_
                  refine awp_t rfl ?_
                  refine awp_seq_k (fun K47 hK47 => ?_)
                  refine awp_plain 1 (by kernel_rfl) rfl (fun g15 hg15 => ?_)
                  simp only [go_sem]
                  refine hK47 _ ?_
                  refine awp_ret ?_
                  refine ends_ev rfl ?_
                  simp only [go_sem]
                  exact Co.of_eq (by rw [hR]; simp [typOk, kidsOk, typed, k5, hr, hn])
            · have q3 : (e.kind = 3) = False := eq_false k3
              have q5 : (e.kind = 5) = False := eq_false k5
              cases hr : rightTy e.type with
              | true =>
                refine awp_plain 9 (by kernel_rfl) rfl (fun g11 hg11 => ?_)
                simp only [go_sem, q3, q5, decide_false]
                refine hK17 _ ?_
                refine awp_seq_k (fun K48 hK48 => ?_)
                refine awp_seq_k (fun K49 hK49 => ?_)
                refine awp_ops (by kernel_rfl) rfl (fun g12 hg12 ops12 KR12 hops12 hKR12 => ?_)
                refine aops_eval 3 hops12 ?_
                simp only [go_sem]
                refine aops_pure hops12 rfl rfl rfl (right04_calls _ h2 (Nat.le_trans (wN_type e) hw) _ _) (CoL.refl _) ?_
                refine aops_last 18 hops12 ?_
                simp only [go_sem, hr, decide_false, Bool.not_true, Bool.not_false]
                refine hKR12 _ ?_
                refine hK49 _ ?_
                refine awp_t rfl ?_
                refine awp_seq_k (fun K50 hK50 => ?_)
                refine awp_plain 1 (by kernel_rfl) rfl (fun g13 hg13 => ?_)
                simp only [go_sem]
                refine hK50 _ ?_
                refine awp_ret ?_
                refine ends_ev rfl ?_
                simp only [go_sem]
                exact Co.of_eq (by rw [hR]; simp [typOk, kidsOk, typed, k3, k5, hr])
              | false =>
                by_cases hn1 : e.type.name = (⟨#[]⟩ : ByteArray)
                · have hx1 : (e.type.name = (⟨#[]⟩ : ByteArray)) = True := eq_true hn1
                  by_cases hn2 : e.type.args.length = 0
                  · have hx2 : ((e.type.args.length : Int) > 0) = False := eq_false (by omega)
                    have hx3 : e.type.args = [] := List.eq_nil_of_length_eq_zero hn2
                    refine awp_plain 9 (by kernel_rfl) rfl (fun g11 hg11 => ?_)
                    simp only [go_sem, q3, q5, decide_false]
                    refine hK17 _ ?_
                    refine awp_seq_k (fun K51 hK51 => ?_)
                    refine awp_seq_k (fun K52 hK52 => ?_)
                    refine awp_ops (by kernel_rfl) rfl (fun g12 hg12 ops12 KR12 hops12 hKR12 => ?_)
                    refine aops_eval 3 hops12 ?_
                    simp only [go_sem]
                    refine aops_pure hops12 rfl rfl rfl (right04_calls _ h2 (Nat.le_trans (wN_type e) hw) _ _) (CoL.refl _) ?_
                    refine aops_last 18 hops12 ?_
                    simp only [go_sem, hx1, hx2, hr, decide_true, decide_false, Bool.not_true, Bool.not_false]
                    refine hKR12 _ ?_
                    refine hK52 _ ?_
                    refine awp_f rfl ?_
                    refine awp_skip ?_
                    refine hK51 _ ?_
                    refine awp_seq_k (fun K53 hK53 => ?_)
                    refine awp_seq_k (fun K54 hK54 => ?_)
                    cases hn : nmOk e.name with
                    | false =>
                      refine awp_ops (by kernel_rfl) rfl (fun g14 hg14 ops14 KR14 hops14 hKR14 => ?_)
                      refine aops_eval 12 hops14 ?_
                      simp only [go_sem, Bool.not_false]
                      refine aops_pure hops14 rfl rfl rfl (is_calls e.name h1 _ _) (CoL.refl _) ?_
                      refine aops_last 3 hops14 ?_
                      simp only [go_sem, hn, Bool.not_false]
                      refine hKR14 _ ?_
                      refine hK54 _ ?_
                      refine awp_t rfl ?_
                      refine awp_seq_k (fun K55 hK55 => ?_)
                      refine awp_plain 1 (by kernel_rfl) rfl (fun g15 hg15 => ?_)
                      simp only [go_sem]
                      refine hK55 _ ?_
                      refine awp_ret ?_
                      refine ends_ev rfl ?_
                      simp only [go_sem]
                      exact Co.of_eq (by rw [hR]; simp [typOk, kidsOk, typed, k3, k5, hr, hn1, hx3, hn])
                    | true =>
                      refine awp_ops (by kernel_rfl) rfl (fun g14 hg14 ops14 KR14 hops14 hKR14 => ?_)
                      refine aops_eval 12 hops14 ?_
                      simp only [go_sem, Bool.not_false]
                      refine aops_pure hops14 rfl rfl rfl (is_calls e.name h1 _ _) (CoL.refl _) ?_
                      refine aops_last 3 hops14 ?_
                      simp only [go_sem, hn, Bool.not_true]
                      refine hKR14 _ ?_
                      refine hK54 _ ?_
                      refine awp_f rfl ?_
                      refine awp_skip ?_
                      refine hK53 _ ?_
                      refine awp_seq_k (fun K56 hK56 => ?_)
                      refine awp_seq_k (fun K57 hK57 => ?_)
                      refine awp_plain 2 (by kernel_rfl) rfl (fun g16 hg16 => ?_)
                      simp only [go_sem]
                      refine hK57 _ ?_
                      refine awp_block ?_
                      refine awp_seq_k (fun K58 hK58 => ?_)
                      by_cases k1 : e.kind = 1
                      · have q1 : (e.kind = 1) = True := eq_true k1
                        refine awp_plain 2 (by kernel_rfl) rfl (fun g17 hg17 => ?_)
                        simp only [go_sem, q1, decide_true]
                        refine hK58 _ ?_
                        refine awp_t rfl ?_
                        refine awp_seq_k (fun K59 hK59 => ?_)
                        refine awp_plain 5 (by kernel_rfl) rfl (fun g18 hg18 => ?_)
                        simp only [go_sem]
                        refine hK59 _ ?_
                        refine awp_ret ?_
                        refine ends_ev rfl ?_
                        simp only [go_sem]
                        exact Co.of_eq (by rw [hR]; simp [typOk, kidsOk, typed, hr, hn1, hx3, hn, k1])
                      · have q1 : (e.kind = 1) = False := eq_false k1
                        refine awp_plain 2 (by kernel_rfl) rfl (fun g17 hg17 => ?_)
                        simp only [go_sem, q1, decide_false]
                        refine hK58 _ ?_
                        refine awp_f rfl ?_
                        refine awp_seq_k (fun K60 hK60 => ?_)
                        by_cases k2 : e.kind = 2
                        · have q2 : (e.kind = 2) = True := eq_true k2
                          refine awp_plain 2 (by kernel_rfl) rfl (fun g19 hg19 => ?_)
                          simp only [go_sem, q2, decide_true]
                          refine hK60 _ ?_
                          refine awp_t rfl ?_
                          refine awp_seq_k (fun K61 hK61 => ?_)
                          refine awp_plain 5 (by kernel_rfl) rfl (fun g20 hg20 => ?_)
                          simp only [go_sem]
                          refine hK61 _ ?_
                          refine awp_ret ?_
                          refine ends_ev rfl ?_
                          simp only [go_sem]
                          exact Co.of_eq (by rw [hR]; simp [typOk, kidsOk, typed, hr, hn1, hx3, hn, k2])
                        · have q2 : (e.kind = 2) = False := eq_false k2
                          refine awp_plain 2 (by kernel_rfl) rfl (fun g19 hg19 => ?_)
                          simp only [go_sem, q2, decide_false]
                          refine hK60 _ ?_
                          refine awp_f rfl ?_
                          refine awp_seq_k (fun K62 hK62 => ?_)
                          refine awp_plain 2 (by kernel_rfl) rfl (fun g21 hg21 => ?_)
                          simp only [go_sem, q3, decide_false]
                          refine hK62 _ ?_
                          refine awp_f rfl ?_
                          refine awp_seq_k (fun K63 hK63 => ?_)
                          refine awp_seq_k (fun K64 hK64 => ?_)
                          by_cases k4 : e.kind = 4
                          · have q4 : (e.kind = 4) = True := eq_true k4
                            refine awp_plain 2 (by kernel_rfl) rfl (fun g23 hg23 => ?_)
                            simp only [go_sem, q4, decide_true]
                            refine hK64 _ ?_
                            refine awp_t rfl ?_
                            refine awp_skip ?_
                            refine hK63 _ ?_
                            refine awp_t rfl ?_
                            refine awp_seq_k (fun K65 hK65 => ?_)
                            refine awp_plain 5 (by kernel_rfl) rfl (fun g25 hg25 => ?_)
                            simp only [go_sem]
                            refine hK65 _ ?_
                            refine awp_ret ?_
                            refine ends_ev rfl ?_
                            simp only [go_sem]
                            exact Co.of_eq (by rw [hR]; simp [typOk, kidsOk, typed, hr, hn1, hx3, hn, k4])
                          · have q4 : (e.kind = 4) = False := eq_false k4
                            refine awp_plain 2 (by kernel_rfl) rfl (fun g23 hg23 => ?_)
                            simp only [go_sem, q4, decide_false]
                            refine hK64 _ ?_
                            refine awp_f rfl ?_
                            refine awp_plain 2 (by kernel_rfl) rfl (fun g24 hg24 => ?_)
                            simp only [go_sem, q5, decide_false]
                            refine hK63 _ ?_
                            refine awp_f rfl ?_
                            refine awp_skip ?_
                            refine hK56 _ ?_
                            refine awp_seq_k (fun K66 hK66 => ?_)
                            refine awp_plain 1 (by kernel_rfl) rfl (fun g26 hg26 => ?_)
                            simp only [go_sem]
                            refine hK66 _ ?_
                            refine awp_ret ?_
                            refine ends_ev rfl ?_
                            simp only [go_sem]
                            exact Co.of_eq (by rw [hR]; simp [typOk, kidsOk, typed, k3, k5, hr, hn1, hx3, hn, k1, k2, k4])
                  · have hx2 : ((e.type.args.length : Int) > 0) = True := eq_true (by omega)
                    refine awp_plain 9 (by kernel_rfl) rfl (fun g11 hg11 => ?_)
                    simp only [go_sem, q3, q5, decide_false]
                    refine hK17 _ ?_
                    refine awp_seq_k (fun K67 hK67 => ?_)
                    refine awp_seq_k (fun K68 hK68 => ?_)
                    refine awp_ops (by kernel_rfl) rfl (fun g12 hg12 ops12 KR12 hops12 hKR12 => ?_)
                    refine aops_eval 3 hops12 ?_
                    simp only [go_sem]
                    refine aops_pure hops12 rfl rfl rfl (right04_calls _ h2 (Nat.le_trans (wN_type e) hw) _ _) (CoL.refl _) ?_
                    refine aops_last 18 hops12 ?_
                    simp only [go_sem, hx1, hx2, hr, decide_true, Bool.not_true, Bool.not_false]
                    refine hKR12 _ ?_
                    refine hK68 _ ?_
                    refine awp_t rfl ?_
                    refine awp_seq_k (fun K69 hK69 => ?_)
                    refine awp_plain 1 (by kernel_rfl) rfl (fun g13 hg13 => ?_)
                    simp only [go_sem]
                    refine hK69 _ ?_
                    refine awp_ret ?_
                    refine ends_ev rfl ?_
                    simp only [go_sem]
                    exact Co.of_eq (by rw [hR]; simp [typOk, kidsOk, typed, k3, k5, hr, hn2])
                · have hx1 : (e.type.name = (⟨#[]⟩ : ByteArray)) = False := eq_false hn1
                  refine awp_plain 9 (by kernel_rfl) rfl (fun g11 hg11 => ?_)
                  simp only [go_sem, q3, q5, decide_false]
                  refine hK17 _ ?_
                  refine awp_seq_k (fun K70 hK70 => ?_)
                  refine awp_seq_k (fun K71 hK71 => ?_)
                  refine awp_ops (by kernel_rfl) rfl (fun g12 hg12 ops12 KR12 hops12 hKR12 => ?_)
                  refine aops_eval 3 hops12 ?_
                  simp only [go_sem]
                  refine aops_pure hops12 rfl rfl rfl (right04_calls _ h2 (Nat.le_trans (wN_type e) hw) _ _) (CoL.refl _) ?_
                  refine aops_last 18 hops12 ?_
                  simp only [go_sem, hx1, hr, decide_true, decide_false, Bool.not_true, Bool.not_false]
                  refine hKR12 _ ?_
                  refine hK71 _ ?_
                  refine awp_t rfl ?_
                  refine awp_seq_k (fun K72 hK72 => ?_)
                  refine awp_plain 1 (by kernel_rfl) rfl (fun g13 hg13 => ?_)
                  simp only [go_sem]
                  refine hK72 _ ?_
                  refine awp_ret ?_
                  refine ends_ev rfl ?_
                  simp only [go_sem]
                  exact Co.of_eq (by rw [hR]; simp [typOk, kidsOk, typed, k3, k5, hr, hn1])
end Go.Proofs.T

