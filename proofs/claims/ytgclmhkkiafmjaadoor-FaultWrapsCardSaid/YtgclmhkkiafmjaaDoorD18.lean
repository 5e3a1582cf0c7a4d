/- A part of the proof, under no conditions of its own: D18. -/
import Derived.Test.YtgclmhkkiafmjaaDoorD17
namespace Go.Proofs.T
open Go Go.Ab Go.RowKit Go.Extern.Stop Go.Stop Go.Extern

/-! ## The fixed results -/

def sChk : Str := ⟨#[99, 104, 101, 99, 107]⟩
def eA : Err := ⟨false, [sChk], 4, 8, true⟩
def eN : Err := ⟨true, [], 0, 0, false⟩
theorem decI4 : decI 4 = ⟨#[52]⟩ := by
  rw [show (4 : Int) = ((4 : Nat) : Int) from rfl, decI_nat, ← digit (by omega)]
  decide
theorem decI8 : decI 8 = ⟨#[56]⟩ := by
  rw [show (8 : Int) = ((8 : Nat) : Int) from rfl, decI_nat, ← digit (by omega)]
  decide
theorem sA : sChk ++ sSep ++ textE 4 = ⟨#[99, 104, 101, 99, 107, 58, 32, 101, 114, 114, 111, 114, 32, 52]⟩ := by
  unfold textE
  rw [decI4]
  decide
theorem toldA : toldS eA = ⟨#[116, 121, 112, 101, 32, 56]⟩ := by
  have : toldS eA = nmS 4 ++ sSp ++ decI 8 := rfl
  rw [this, decI8]
  decide
theorem nm5 : nmS 5 = ⟨#[110, 111, 109, 111, 110, 111]⟩ := by decide
theorem toldN : toldS eN = ⟨#[111, 107]⟩ := rfl
theorem okA : okEr eA := ⟨⟨by decide, by decide⟩, ⟨by decide, by decide⟩, ⟨by decide, by decide⟩⟩
theorem okN : okEr eN := ⟨⟨by decide, by decide⟩, ⟨by decide, by decide⟩, ⟨by decide, by decide⟩⟩
theorem shN : errD (shiftE eN 1) = .val .nilIface := rfl
set_option maxRecDepth 100000 in
theorem awake2_calls (g d : Nat) : ACalls E 7 [] [] g d (dB true) [] := by
  refine acalls_of_awp (fn := Tryd.f7) (N := 40) Tryd.call7 Tryd.func7 rfl rfl (by simp) ?_
  simp only [go_sem]
  refine awp_seq_k (fun K1 hK1 => ?_)
  refine awp_plain 1 (by kernel_rfl) rfl (fun g0 hg0 => ?_)
  simp only [go_sem]
  refine hK1 _ ?_
  refine awp_seq_k (fun K2 hK2 => ?_)
  refine awp_ops (by kernel_rfl) rfl (fun g1 hg1 ops1 KR1 hops1 hKR1 => ?_)
  refine aops_eval 0 hops1 ?_
  simp only [go_sem]
  refine aops_pure hops1 rfl rfl rfl (newF_calls 4 8 _ _) (CoL.refl _) ?_
  refine aops_pure hops1 rfl rfl rfl (in_some sChk 50 (.agg [dI 4, dI 8]) _ _) (CoL.refl _) ?_
  refine aops_last 1 hops1 ?_
  simp only [go_sem]
  refine hKR1 _ ?_
  refine hK2 _ ?_
  refine awp_seq_k (fun K3 hK3 => ?_)
  refine awp_seq_k (fun K4 hK4 => ?_)
  refine awp_plain 2 (by kernel_rfl) rfl (fun g2 hg2 => ?_)
  simp only [go_sem]
  refine hK4 _ ?_
  refine awp_f rfl ?_
  refine awp_skip ?_
  refine hK3 _ ?_
  refine awp_seq_k (fun K5 hK5 => ?_)
  refine awp_ops (by kernel_rfl) rfl (fun g4 hg4 ops4 KR4 hops4 hKR4 => ?_)
  refine aops_eval 0 hops4 ?_
  simp only [go_sem]
  refine aops_pure hops4 rfl rfl rfl (code_nil _ _) (CoL.refl _) ?_
  refine aops_last 5 hops4 ?_
  simp only [go_sem]
  refine hKR4 _ ?_
  refine hK5 _ ?_
  refine awp_seq_k (fun K6 hK6 => ?_)
  refine awp_ops (by kernel_rfl) rfl (fun g5 hg5 ops5 KR5 hops5 hKR5 => ?_)
  refine aops_eval 1 hops5 ?_
  simp only [go_sem]
  refine aops_inv0 hops5 rfl rfl (leads_method rfl rfl rfl (Recv.same m59 _)) (innerErr_calls sChk (.iface 50 (.agg [dI 4, dI 8])) (textE 4) (by decide) (by unfold textE; rw [decI4]; decide) ⟨_, _, _, rfl, Recv.same m50 _, faultErr_calls 4 8 ⟨by decide, by decide⟩⟩ _ _) (CoL.refl _) ?_
  refine aops_eval 3 hops5 ?_
  simp only [go_sem, sA]
  refine aops_pure hops5 rfl rfl rfl (text_calls eA okA _ _) (CoL.refl _) ?_
  refine aops_eval 7 hops5 ?_
  simp only [go_sem, toldA]
  refine aops_pure hops5 rfl rfl rfl (in_nil _ _ _) (CoL.refl _) ?_
  refine aops_eval 3 hops5 ?_
  simp only [go_sem]
  refine aops_pure hops5 rfl rfl rfl (shift_calls eN 1 (by decide) (by decide) _ _) (CoL.refl _) ?_
  refine aops_eval 3 hops5 ?_
  simp only [go_sem, shN]
  refine aops_pure hops5 rfl rfl rfl (name_calls 5 _ _) (CoL.refl _) ?_
  refine aops_eval 3 hops5 ?_
  simp only [go_sem, nm5]
  refine aops_pure hops5 rfl rfl rfl (text_calls eN okN _ _) (CoL.refl _) ?_
  refine aops_last 3 hops5 ?_
  simp only [go_sem, toldN]
  refine hKR5 _ ?_
  refine hK6 _ ?_
  refine awp_ret ?_
  refine ends_ev rfl ?_
  simp only [go_sem]
  exact Co.refl _
end Go.Proofs.T

