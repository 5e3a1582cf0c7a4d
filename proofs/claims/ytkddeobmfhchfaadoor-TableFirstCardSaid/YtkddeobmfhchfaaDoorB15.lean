/- A part of the proof, under no conditions of its own: B15. -/
import Derived.Test.YtkddeobmfhchfaaDoorB14
namespace Go.Proofs.T
open Go Go.Ab Go.RowKit

/-! ## The fixed results -/

def sP : Str := ⟨#[80]⟩
def sQ : Str := ⟨#[81]⟩
def sT1 : Str := ⟨#[84]⟩
def sA1 : Str := ⟨#[97]⟩
def sL1 : Str := ⟨#[108]⟩
def sAny : Str := ⟨#[65, 110, 121]⟩
def decP : Dec := ⟨1, sP, [⟨sA1, .mk sAny [] 0, 0⟩], [⟨sL1, .mk sA1 [] 0, 0⟩], [], ByteArray.empty, [], zeroSi, zeroEx, 0⟩
def prgP : Prg := ⟨[decP], zeroEx⟩
theorem sm1 (n : Str) (h : n.size ≤ 100) : smTy (.mk n [] 0) := (smTy_iff _).2 ⟨by show n.size ≤ _; omega, by simp [Ty.args], by simp [Ty.args]⟩
theorem sm_prgP : smPr prgP := by
  have hz := smDe_zero
  have he : smEx zeroEx := hz.2.2.2.2.2.2.2
  have hs : smSi zeroSi := hz.2.2.2.2.2.2.1
  refine ⟨⟨by simp [prgP], ?_⟩, he⟩
  intro e h
  simp only [prgP, List.mem_singleton] at h
  subst h
  refine ⟨by decide, ⟨by simp [decP], ?_⟩, ⟨by simp [decP], ?_⟩, ⟨by simp [decP], by simp [decP]⟩, by decide, ⟨by simp [decP], by simp [decP]⟩, hs, he⟩
  · intro f hf
    simp only [decP, List.mem_singleton] at hf
    subst hf
    exact ⟨by decide, sm1 _ (by decide)⟩
  · intro f hf
    simp only [decP, List.mem_singleton] at hf
    subst hf
    exact ⟨by decide, sm1 _ (by decide)⟩
theorem tyP : tyDe prgP sP = some decP := by simp [tyDe, tyFind, prgP, isDe, decP]
theorem tyQ : tyDe prgP sQ = none := by
  have : ¬ sP = sQ := by decide
  simp [tyDe, tyFind, prgP, isDe, decP, this]
def tyPT : Ty := .mk sP [.mk sT1 [] 0] 0
def fldT : Param := ⟨sL1, .mk sT1 [] 0, 0⟩
theorem fldP : fldsOf ((tyDe prgP tyPT.name).getD zeroDe) tyPT.args = [fldT] := by
  have h1 : tyPT.name = sP := rfl
  have h2 : tyPT.args = [.mk sT1 [] 0] := rfl
  rw [h1, h2, tyP]
  have h : substTy [sA1] [.mk sT1 [] 0] (.mk sA1 [] 0) = .mk sT1 [] 0 := by
    simp [substTy, look, isS, Ty.args, Ty.name, List.findIdx?_cons]
  simp [fldsOf, decP, mapPa, h, fldT]
theorem instP : instOf prgP tyPT 1 = true := by
  have h1 : tyPT.name = sP := rfl
  have h2 : tyPT.args = [.mk sT1 [] 0] := rfl
  simp [instOf, kindOf, fmsOf, h1, h2, tyP, decP]
theorem instP0 (k : Int) : instOf prgP (.mk sP [] 0) k = false := by
  simp [instOf, fmsOf, Ty.name, Ty.args, tyP, decP]
theorem at_zero'' (a : D) (rows : List D) : at? (a :: rows) 0 = some a := rfl

set_option maxRecDepth 100000 in
theorem awake_calls (g d : Nat) : ACalls E 8 [] [] g d (dB true) [] := by
  have sm := sm_prgP
  have smPT : smTy tyPT := (smTy_iff _).2 ⟨by decide, by simp [tyPT, Ty.args], by simpa [tyPT, Ty.args] using sm1 sT1 (by decide)⟩
  have smP0 : smTy (.mk sP [] 0) := sm1 _ (by decide)
  have c1 : ∀ g d, ACalls E 12 [encTb prgP, encTy tyPT] [] g d (.tup [slPa [fldT], dB true]) [] := fun g d => by
    have := tbFields_calls prgP sm tyPT smPT g d
    rwa [instP, if_pos rfl, fldP] at this
  have c2 : ∀ g d, ACalls E 12 [encTb prgP, encTy (.mk sP [] 0)] [] g d (.tup [slPa [], dB false]) [] := fun g d => by
    have := tbFields_calls prgP sm (.mk sP [] 0) smP0 g d
    rwa [instP0, if_neg (by simp)] at this
  have c3 : ∀ g d, ACalls E 13 [encTb prgP, encTy (.mk sP [] 0)] [] g d (.tup [slSi [], dB false]) [] := fun g d => by
    have := tbSpecs_calls prgP sm (.mk sP [] 0) smP0 g d
    rwa [instP0, if_neg (by simp)] at this
  have k1 : kindOf prgP sP = 1 := by simp [kindOf, tyP, decP]
  have k2 : kindOf prgP sQ = 0 := by simp [kindOf, tyQ, zeroDe]
  have k3 : fmsOf prgP sP = [⟨sA1, .mk sAny [] 0, 0⟩] := by simp [fmsOf, tyP, decP]
  refine acalls_of_awp (fn := Tryd.f8) (N := 93) Tryd.call8 Tryd.func8 rfl rfl (by simp) ?_
  simp only [go_sem]
  refine awp_seq_k (fun K1 hK1 => ?_)
  refine awp_plain 1 (by kernel_rfl) rfl (fun g0 hg0 => ?_)
  simp only [go_sem]
  refine hK1 _ ?_
  refine awp_seq_k (fun K2 hK2 => ?_)
  refine awp_plain 11 (by kernel_rfl) rfl (fun g1 hg1 => ?_)
  simp only [go_sem]
  refine hK2 _ ?_
  refine awp_seq_k (fun K3 hK3 => ?_)
  refine awp_ops (by kernel_rfl) rfl (fun g2 hg2 ops2 KR2 hops2 hKR2 => ?_)
  refine aops_eval 1 hops2 ?_
  simp only [go_sem]
  refine aops_pure hops2 rfl rfl rfl (tableNew_calls prgP sm _ _) (.cons (.agg (.cons (.one (.cons (.refl _) (.cons (.refl _) (.cons (.one (.cons (.refl _) (.cons (.refl _) (.cons (.nil _) (.cons (.refl _) (.cons (.refl _) .nil)))))) (.cons (.one (.cons (.refl _) (.cons (.refl _) (.cons (.nil _) (.cons (.refl _) (.cons (.refl _) .nil)))))) (.cons (.nil _) (.cons (.refl _) (.cons (.nil _) (.cons (.refl _) (.cons (.nil _) (.cons (.nil _) (.cons (.refl _) (.cons (.nil _) (.cons (.refl _) (.cons (.refl _) (.cons (.refl _) (.cons (.refl _) (.cons (.refl _) (.cons (.nil _) (.cons (.refl _) (.cons (.nil _) (.cons (.nil _) (.cons (.refl _) (.cons (.refl _) .nil)))))))))))))))))))))))) (.cons (.refl _) (.cons (.refl _) (.cons (.refl _) (.cons (.nil _) (.cons (.refl _) (.cons (.nil _) (.cons (.nil _) (.cons (.refl _) .nil)))))))))) .nil) ?_
  refine aops_last 1 hops2 ?_
  simp only [go_sem]
  refine hKR2 _ ?_
  refine hK3 _ ?_
  refine awp_seq_k (fun K4 hK4 => ?_)
  refine awp_plain 1 (by kernel_rfl) rfl (fun g3 hg3 => ?_)
  simp only [go_sem]
  refine hK4 _ ?_
  refine awp_seq_k (fun K5 hK5 => ?_)
  refine awp_seq_k (fun K6 hK6 => ?_)
  refine awp_plain 2 (by kernel_rfl) rfl (fun g4 hg4 => ?_)
  simp only [go_sem, encTb]
  refine hK6 _ ?_
  refine awp_f rfl ?_
  refine awp_skip ?_
  refine hK5 _ ?_
  refine awp_seq_k (fun K7 hK7 => ?_)
  refine awp_ops (by kernel_rfl) rfl (fun g6 hg6 ops6 KR6 hops6 hKR6 => ?_)
  refine aops_eval 4 hops6 ?_
  simp only [go_sem]
  refine aops_pure hops6 rfl rfl rfl (c1 _ _) (.cons (.refl _) (.cons (.agg (.cons (.refl _) (.cons (.one (.cons (.refl _) (.cons (.nil _) (.cons (.refl _) .nil)))) (.cons (.refl _) .nil)))) .nil)) ?_
  refine aops_last 5 hops6 ?_
  simp only [go_sem]
  refine hKR6 _ ?_
  refine hK7 _ ?_
  refine awp_seq_k (fun K8 hK8 => ?_)
  refine awp_ops (by kernel_rfl) rfl (fun g7 hg7 ops7 KR7 hops7 hKR7 => ?_)
  refine aops_eval 2 hops7 ?_
  simp only [go_sem]
  refine aops_pure hops7 rfl rfl rfl (c2 _ _) (.cons (.refl _) (.cons (.agg (.cons (.refl _) (.cons (.nil _) (.cons (.refl _) .nil)))) .nil)) ?_
  refine aops_last 5 hops7 ?_
  simp only [go_sem]
  refine hKR7 _ ?_
  refine hK8 _ ?_
  refine awp_seq_k (fun K9 hK9 => ?_)
  refine awp_ops (by kernel_rfl) rfl (fun g8 hg8 ops8 KR8 hops8 hKR8 => ?_)
  refine aops_eval 2 hops8 ?_
  simp only [go_sem]
  refine aops_pure hops8 rfl rfl rfl (c3 _ _) (.cons (.refl _) (.cons (.agg (.cons (.refl _) (.cons (.nil _) (.cons (.refl _) .nil)))) .nil)) ?_
  refine aops_last 5 hops8 ?_
  simp only [go_sem]
  refine hKR8 _ ?_
  refine hK9 _ ?_
  refine awp_seq_k (fun K10 hK10 => ?_)
  refine awp_ops (by kernel_rfl) rfl (fun g9 hg9 ops9 KR9 hops9 hKR9 => ?_)
  refine aops_eval 24 hops9 ?_
  simp only [go_sem, fldT, List.length_cons, List.length_nil, Nat.zero_add, List.map_cons, List.map_nil, at_zero'', List.getElem?_cons_zero, show ((1 : Nat) : Int) = 1 from rfl, decide_true]
  refine aops_pure hops9 rfl rfl rfl (tbKind_calls prgP sP _ _) (CoL.refl _) ?_
  refine aops_eval 4 hops9 ?_
  simp only [go_sem, k1, List.map_cons, List.map_nil, List.getElem?_cons_zero, decide_true]
  refine aops_pure hops9 rfl rfl rfl (tbKind_calls prgP sQ _ _) (CoL.refl _) ?_
  refine aops_eval 4 hops9 ?_
  simp only [go_sem, k2, List.map_cons, List.map_nil, List.getElem?_cons_zero, decide_true]
  refine aops_pure hops9 rfl rfl rfl (tbFms_calls prgP sm sP _ _) (CoL.refl _) ?_
  refine aops_eval 5 hops9 ?_
  simp only [go_sem, k3, List.length_cons, List.length_nil, Nat.zero_add, List.map_cons, List.map_nil, List.getElem?_cons_zero, show ((1 : Nat) : Int) = 1 from rfl, decide_true]
  refine aops_pure hops9 rfl rfl rfl (kindNil sP _ _) (CoL.refl _) ?_
  refine aops_eval 4 hops9 ?_
  simp only [go_sem, List.map_cons, List.map_nil, List.getElem?_cons_zero, decide_true]
  refine aops_pure hops9 rfl rfl rfl (tbProg_calls prgP sm _ _) (CoL.refl _) ?_
  refine aops_last 5 hops9 ?_
  simp only [go_sem, prgP, prC, List.length_cons, List.length_nil, Nat.zero_add, List.map_cons, List.map_nil, List.getElem?_cons_zero, show ((1 : Nat) : Int) = 1 from rfl, decide_true]
  refine hKR9 _ ?_
  refine hK10 _ ?_
  refine awp_ret ?_
  trace_state
  refine ends_ev rfl ?_
  simp only [go_sem]
  exact Co.refl _
end Go.Proofs.T

