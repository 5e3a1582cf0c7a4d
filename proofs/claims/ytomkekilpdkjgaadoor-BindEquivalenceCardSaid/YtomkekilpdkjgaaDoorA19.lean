/- A part of the proof, under no conditions of its own: A19. -/
import Derived.Test.YtomkekilpdkjgaaDoorP1
namespace Go.Proofs.T
open Go Go.Ab Go.RowKit

/-! ## The fixed results -/

def sigM (v : Str) : Sig := ⟨⟨#[109]⟩, [⟨v, .mk ⟨#[73]⟩ [] 0, 0⟩], [⟨v ++ ⟨#[120]⟩, .mk v [] 0, 0⟩], .mk v [] 0, 0⟩

theorem awakeSig_calls (v : Str) (hv : v.size ≤ 100) (g d : Nat) : ACalls E 27 [encS v] [] g d (encSi (sigM v)) [] := by
  refine acalls_of_awp (fn := Tryd.f27) (N := 16) Tryd.call27 Tryd.func27 rfl rfl (by simp) ?_
  simp only [go_sem]
  refine awp_seq_k (fun K1 hK1 => ?_)
  refine awp_plain 1 (by kernel_rfl) rfl (fun g0 hg0 => ?_)
  simp only [go_sem]
  refine hK1 _ ?_
  refine awp_seq_k (fun K2 hK2 => ?_)
  refine awp_plain 14 (by kernel_rfl) rfl (fun g1 hg1 => ?_)
  simp only [go_sem, show v.size ≤ 9223372036854775806 by omega]
  try simp (disch := omega) only [wrapN, wrapB, Int.tdiv_eq_ediv_of_nonneg, Int.tmod_eq_emod_of_nonneg]
  refine hK2 _ ?_
  refine awp_ret ?_
  refine ends_ev rfl ?_
  simp only [go_sem]
  exact .agg (.cons (.refl _) (.cons (.one (.cons (.refl _) (.cons (.refl _) (.cons (.nil _) (.cons (.refl _) (.cons (.refl _) .nil)))))) (.cons (.one (.cons (.refl _) (.cons (.refl _) (.cons (.nil _) (.cons (.refl _) (.cons (.refl _) .nil)))))) (.cons (.refl _) (.cons (.nil _) (.cons (.refl _) (.cons (.refl _) .nil)))))))

def sA : Str := ⟨#[97]⟩
def sB : Str := ⟨#[98]⟩
def sC : Str := ⟨#[36, 48]⟩
def sigC : Sig := ⟨⟨#[109]⟩, [⟨sC, .mk ⟨#[73]⟩ [] 0, 0⟩], [⟨⟨#[]⟩, .mk sC [] 0, 0⟩], .mk sC [] 0, 0⟩
theorem local0 : localS 0 = sC := by
  rw [localS, decS, Lib.decDigits, dif_pos (by decide)]
  decide
theorem canonM (v : Str) (hv : v ≠ ⟨#[73]⟩) : canonSi (sigM v) = sigC := by
  have h : ownF (sigM v) (.mk v [] 0) = .mk sC [] 0 := by
    simp [ownF, substTy, look, sigM, isS, locTys, locTy, Ty.args, Ty.name, local0, List.findIdx?_cons]
  have h2 : ownF (sigM v) (.mk ⟨#[73]⟩ [] 0) = .mk ⟨#[73]⟩ [] 0 := by
    simp [ownF, substTy, look, sigM, isS, locTys, locTy, local0, List.findIdx?_cons, hv, substTys]
  have h' := h; have h2' := h2
  simp only [sigM] at h' h2'
  simp [canonSi, sigM, mapFm, mapPa, h', h2', noName, toLoc, local0, sigC]
theorem sm_t (n : Str) (h : n.size ≤ 100) : smTy (.mk n [] 0) := (smTy_iff _).2 ⟨by show n.size ≤ _; omega, by simp [Ty.args], by simp [Ty.args]⟩
theorem sm_M (v : Str) (h : v.size ≤ 100) : smSi (sigM v) := by
  refine ⟨by simp [sigM]; decide, ⟨by simp [sigM], ?_⟩, ⟨by simp [sigM], ?_⟩, sm_t v h⟩
  · intro f hf
    simp only [sigM, List.mem_singleton] at hf
    subst hf
    exact ⟨by show v.size ≤ _; omega, sm_t _ (by decide)⟩
  · intro f hf
    simp only [sigM, List.mem_singleton] at hf
    subst hf
    exact ⟨by have : (⟨#[120]⟩ : Str).size = 1 := rfl
              simp; omega, sm_t _ h⟩

theorem at_zero (a : D) (rows : List D) : at? (a :: rows) 0 = some a := rfl
def sig0 : Sig := ⟨⟨#[109]⟩, [], [], zeroTy, 0⟩
def sT : Str := ⟨#[84]⟩
theorem bound0 : boundOf (sigM ⟨#[97]⟩).formals (.mk ⟨#[97]⟩ [] 0) = some (.mk ⟨#[73]⟩ [] 0) := by
  simp [boundOf, sigM, isS, Ty.args, Ty.name, List.findIdx?_cons]
def sigT : Sig := ⟨⟨#[109]⟩, [⟨⟨#[97]⟩, .mk ⟨#[73]⟩ [] 0, 0⟩], [⟨⟨#[97, 120]⟩, .mk sT [] 0, 0⟩], .mk sT [] 0, 0⟩
theorem apply0 : applySi (sigM ⟨#[97]⟩) [.mk sT [] 0] = sigT := by
  have h : substTy [⟨#[97]⟩] [.mk sT [] 0] (.mk ⟨#[97]⟩ [] 0) = .mk sT [] 0 := by
    simp [substTy, look, isS, Ty.args, Ty.name, List.findIdx?_cons]
  have h2 : substTy [⟨#[97]⟩] [.mk sT [] 0] (.mk ⟨#[73]⟩ [] 0) = .mk ⟨#[73]⟩ [] 0 := by
    simp [substTy, look, isS, List.findIdx?_cons, substTys]
  simp [applySi, mapSi, sigM, mapFm, mapPa, h, h2, sigT]
  rfl
theorem alike0 : alike (sigM ⟨#[97]⟩) (sigM ⟨#[98]⟩) = true := by
  rw [alike, canonM _ (by decide), canonM _ (by decide)]
  simp [sameSi, sigC, allB, sameFm, samePa, same, cmpTy_self]
theorem alike1 : alike (sigM ⟨#[97]⟩) sig0 = false := by
  rw [alike, canonM _ (by decide)]
  simp [sameSi, sigC, sig0, canonSi, allB]

set_option maxRecDepth 100000 in
theorem awake_calls (g d : Nat) : ACalls E 8 [] [] g d (dB true) [] := by
  have hA := awakeSig_calls ⟨#[97]⟩ (by decide)
  have hB := awakeSig_calls ⟨#[98]⟩ (by decide)
  have mA := sm_M ⟨#[97]⟩ (by decide)
  have mB := sm_M ⟨#[98]⟩ (by decide)
  have m0 : smSi sig0 := ⟨by decide, ⟨by simp [sig0], by simp [sig0]⟩, ⟨by simp [sig0], by simp [sig0]⟩, sm_t _ (by decide)⟩
  have hap : ∀ g d, ACalls E 16 [encSi (sigM ⟨#[97]⟩), slTy [.mk sT [] 0]] [] g d (.tup [encSi sigT, dB true]) [] := fun g d => by
    have := apply_calls (sigM ⟨#[97]⟩) [.mk sT [] 0] mA (by simpa using sm_t sT (by decide)) g d
    rw [if_pos (show (sigM ⟨#[97]⟩).formals.length = [Ty.mk sT [] 0].length from rfl), apply0] at this
    exact this
  have hbo : ∀ g d, ACalls E 22 [slFm (sigM ⟨#[97]⟩).formals, encTy (.mk ⟨#[97]⟩ [] 0)] [] g d (.tup [encTy (.mk ⟨#[73]⟩ [] 0), dB true]) [] := fun g d => by
    have := bound_calls (sigM ⟨#[97]⟩).formals (.mk ⟨#[97]⟩ [] 0) (by decide) mA.2.1.2 (smTy.ok _ (sm_t _ (by decide))) g d
    rwa [bound0] at this
  have hC : ∀ f ∈ sigC.formals, smFm f := fun f hf => by
    simp only [sigC, List.mem_singleton] at hf
    subst hf
    exact ⟨by decide, sm_t _ (by decide)⟩
  refine acalls_of_awp (fn := Tryd.f8) (N := 91) Tryd.call8 Tryd.func8 rfl rfl (by simp) ?_
  simp only [go_sem]
  refine awp_seq_k (fun K1 hK1 => ?_)
  refine awp_plain 1 (by kernel_rfl) rfl (fun g0 hg0 => ?_)
  simp only [go_sem]
  refine hK1 _ ?_
  refine awp_seq_k (fun K2 hK2 => ?_)
  refine awp_plain 1 (by kernel_rfl) rfl (fun g1 hg1 => ?_)
  simp only [go_sem]
  refine hK2 _ ?_
  refine awp_seq_k (fun K3 hK3 => ?_)
  refine awp_ops (by kernel_rfl) rfl (fun g2 hg2 ops2 KR2 hops2 hKR2 => ?_)
  refine aops_eval 1 hops2 ?_
  simp only [go_sem]
  refine aops_pure hops2 rfl rfl rfl (hA _ _) (CoL.refl _) ?_
  refine aops_pure hops2 rfl rfl rfl (canonF_calls _ mA _ _) (CoL.refl _) ?_
  refine aops_last 2 hops2 ?_
  simp only [go_sem, canonM ⟨#[97]⟩ (by decide)]
  refine hKR2 _ ?_
  refine hK3 _ ?_
  refine awp_seq_k (fun K4 hK4 => ?_)
  refine awp_ops (by kernel_rfl) rfl (fun g3 hg3 ops3 KR3 hops3 hKR3 => ?_)
  refine aops_eval 1 hops3 ?_
  simp only [go_sem]
  refine aops_pure hops3 rfl rfl rfl (hA _ _) (CoL.refl _) ?_
  refine aops_eval 2 hops3 ?_
  simp only [go_sem]
  refine aops_pure hops3 rfl rfl rfl (hbo _ _) (.cons (.refl _) (.cons (.agg (.cons (.refl _) (.cons (.nil _) (.cons (.refl _) .nil)))) .nil)) ?_
  refine aops_last 6 hops3 ?_
  simp only [go_sem]
  refine hKR3 _ ?_
  refine hK4 _ ?_
  refine awp_seq_k (fun K5 hK5 => ?_)
  refine awp_ops (by kernel_rfl) rfl (fun g4 hg4 ops4 KR4 hops4 hKR4 => ?_)
  refine aops_eval 1 hops4 ?_
  simp only [go_sem]
  refine aops_pure hops4 rfl rfl rfl (hA _ _) (CoL.refl _) ?_
  refine aops_eval 2 hops4 ?_
  simp only [go_sem]
  refine aops_pure hops4 rfl rfl rfl (hap _ _) (.cons (.refl _) (.cons (.one (.cons (.refl _) (.cons (.nil _) (.cons (.refl _) .nil)))) .nil)) ?_
  refine aops_last 6 hops4 ?_
  simp only [go_sem]
  refine hKR4 _ ?_
  refine hK5 _ ?_
  refine awp_seq_k (fun K6 hK6 => ?_)
  refine awp_ops (by kernel_rfl) rfl (fun g5 hg5 ops5 KR5 hops5 hKR5 => ?_)
  refine aops_eval 1 hops5 ?_
  simp only [go_sem]
  refine aops_pure hops5 rfl rfl rfl (hA _ _) (CoL.refl _) ?_
  refine aops_eval 1 hops5 ?_
  simp only [go_sem]
  refine aops_pure hops5 rfl rfl rfl (hB _ _) (CoL.refl _) ?_
  refine aops_pure hops5 rfl rfl rfl (alike_calls _ _ mA mB _ _) (CoL.refl _) ?_
  refine aops_eval 2 hops5 ?_
  simp only [go_sem, alike0]
  refine aops_pure hops5 rfl rfl rfl (hA _ _) (CoL.refl _) ?_
  refine aops_eval 1 hops5 ?_
  simp only [go_sem]
  refine aops_pure hops5 rfl rfl rfl (alike_calls _ sig0 mA m0 _ _) (.cons (.refl _) (.cons (.agg (.cons (.refl _) (.cons (.nil _) (.cons (.nil _) (.cons (.refl _) (.cons (.nil _) (.cons (.refl _) (.cons (.refl _) .nil)))))))) .nil)) ?_
  refine aops_eval 42 hops5 ?_
  simp only [go_sem, alike1, sigC, sC, sigT, sT, List.append_eq, List.cons_append, List.nil_append, show ((1 : Nat) : Int) = 1 from rfl, decide_true, at_zero, List.getElem?_cons_zero]
  refine aops_pure hops5 rfl rfl rfl (names_calls sigC.formals (by decide) _ _) (CoL.refl _) ?_
  refine aops_eval 8 hops5 ?_
  simp only [go_sem, sigC, List.map_cons, List.map_nil, List.length_cons, List.length_nil, Nat.zero_add, List.append_eq, List.cons_append, List.nil_append, show ((1 : Nat) : Int) = 1 from rfl, decide_true, List.getElem?_cons_zero]
  refine aops_pure hops5 rfl rfl rfl (join_calls sigC.formals sigC.formals (by decide) (by decide) hC hC _ _) (CoL.refl _) ?_
  refine aops_last 4 hops5 ?_
  simp only [go_sem, List.append_eq, List.cons_append, List.nil_append, List.getElem?_cons_zero]
  refine hKR5 _ ?_
  refine hK6 _ ?_
  refine awp_ret ?_
  refine ends_ev rfl ?_
  simp only [go_sem]
  exact Co.refl _
end Go.Proofs.T

