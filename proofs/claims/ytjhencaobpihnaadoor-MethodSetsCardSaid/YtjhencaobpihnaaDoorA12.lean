/- A part of the proof, under no conditions of its own: A12. -/
import Derived.Test.YtjhencaobpihnaaDoorYF
namespace Go.Proofs.T
open Go Go.Ab Go.RowKit

theorem smSi.ok {s : Sig} (h : smSi s) : okSi s := by
  obtain ⟨h1, ⟨h2, h3⟩, ⟨h4, h5⟩, h6⟩ := h
  exact ⟨by omega, ⟨by omega, fun f hf => ⟨by have := (h3 f hf).1; omega, smTy.ok _ (h3 f hf).2⟩⟩, ⟨by omega, fun f hf => ⟨by have := (h5 f hf).1; omega, smTy.ok _ (h5 f hf).2⟩⟩, smTy.ok _ h6⟩


theorem smCanon (s : Sig) (hs : smSi s) : smSi (canonSi s) := by
  obtain ⟨h1, ⟨h2, h3⟩, ⟨h4, h5⟩, h6⟩ := hs
  have hsub : ∀ t, smTy t → smTy (ownF s t) := fun t ht => smTy_subst (smLoc h2) t ht
  refine ⟨h1, ⟨by simpa [canonSi] using h2, fun f hf => ?_⟩, ⟨by simpa [canonSi] using h4, fun f hf => ?_⟩, hsub _ h6⟩
  · simp only [canonSi, List.mem_mapIdx, List.getElem_map, List.length_map] at hf
    obtain ⟨i, hi, rfl⟩ := hf
    have := decS_size i (by omega)
    have h : (localS i).size = 1 + (decS i).size := by simp [localS, ByteArray.size_append]; rfl
    exact ⟨by show (localS i).size ≤ _; omega, hsub _ (h3 _ (List.getElem_mem _)).2⟩
  · simp only [canonSi, List.mem_map] at hf
    obtain ⟨_, ⟨x, hx, rfl⟩, rfl⟩ := hf
    exact ⟨by show (0 : Nat) ≤ _; omega, hsub _ (h5 x hx).2⟩

def alike (s t : Sig) : Bool := sameSi (canonSi s) (canonSi t)

theorem alike_calls (s t : Sig) (hs : smSi s) (ht : smSi t) (g d : Nat) : ACalls E 23 [encSi s, encSi t] [] g d (dB (alike s t)) [] := by
  refine acalls_of_awp (fn := Tryd.f23) (N := 10) Tryd.call23 Tryd.func23 rfl rfl (by simp) ?_
  simp only [go_sem]
  refine awp_seq_k (fun K1 hK1 => ?_)
  refine awp_plain 3 (by kernel_rfl) rfl (fun g0 hg0 => ?_)
  simp only [go_sem]
  refine hK1 _ ?_
  refine awp_seq_k (fun K2 hK2 => ?_)
  refine awp_any 5 (by kernel_rfl) (by kernel_rfl) rfl (fun g1 hg1 ops1 KR1 hops1 hKR1 => ?_)
  refine qrun_eval 1 hops1 ?_
  simp only [go_sem]
  refine qrun_pure hops1 rfl rfl rfl (canonF_calls s hs _ _) (CoL.refl _) rfl ?_
  refine qrun_eval 1 hops1 ?_
  simp only [go_sem]
  refine qrun_pure hops1 rfl rfl rfl (canonF_calls t ht _ _) (CoL.refl _) rfl ?_
  refine qrun_pure hops1 rfl rfl rfl (sameSig_calls _ _ (smCanon s hs).ok _ _) (CoL.refl _) rfl ?_
  refine qrun_last 0 hops1 ?_
  simp only [go_sem]
  refine aops_last 1 hops1 ?_
  simp only [go_sem]
  refine hKR1 _ ?_
  refine hK2 _ ?_
  refine awp_ret ?_
  refine ends_ev rfl ?_
  simp only [go_sem]
  exact Co.refl _

theorem allB_congr {α : Type} {p q : α → α → Bool} (h : ∀ a b, p a b = q a b) : ∀ x y, allB p x y = allB q x y
  | [], [] => rfl
  | [], _ :: _ => rfl
  | _ :: _, [] => rfl
  | a :: x, b :: y => by simp only [allB, h, allB_congr h x y]

theorem refSi_false (s t : Sig) : refSi false s t = sameSi s t := by
  simp only [refSi, sameSi, Bool.not_false, Bool.true_or, Bool.and_true]
  rw [allB_congr (p := refFm false) (q := sameFm) (fun a b => by simp [refFm, sameFm]), allB_congr (p := refPa false) (q := samePa) (fun a b => by simp [refPa, samePa])]

def applySi (s : Sig) (us : List Ty) : Sig := mapSi (substTy (s.formals.map (·.name)) us) s
def zeroTy : Ty := .mk ByteArray.empty [] 0
def zeroSi : Sig := ⟨ByteArray.empty, [], [], zeroTy, 0⟩
theorem coZeroSi : Co (.agg zSi) (encSi zeroSi) := .agg (.cons (.refl _) (.cons (.nil _) (.cons (.nil _) (.cons (.refl _) (.cons (.nil _) (.cons (.refl _) (.cons (.refl _) .nil)))))))
theorem coZeroTy : Co (.agg [.val (.string ByteArray.empty), .val (.slice none 0 0), dI 0]) (encTy zeroTy) := by
  rw [encTy_agg]
  exact .agg (.cons (.refl _) (.cons (.nil _) (.cons (.refl _) .nil)))

end Go.Proofs.T

