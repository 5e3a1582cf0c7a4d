/- A part of the proof, under no conditions of its own: YG. -/
import Derived.Test.YtjhencaobpihnaaGreatDoorC6
import Derived.Test.YtjhencaobpihnaaGreatDoorP1
import Derived.Test.YtjhencaobpihnaaGreatDoorB17
import Derived.Test.YtjhencaobpihnaaGreatDoorB20
namespace Go.Proofs.T
open Go Go.Ab Go.RowKit

/-! ## The fixed results -/

theorem alike_self (s : Sig) : alike s s = true := (sameSi_iff _ _).2 rfl
theorem findSi_self {l : List Sig} (h : Names1 l) {k : Nat} (hk : k < l.length) : findSi l l[k].name = some k := by
  unfold findSi
  rw [List.findIdx?_eq_some_iff_getElem]
  refine ⟨hk, by simp, fun j hj => ?_⟩
  simp only [decide_eq_true_eq]
  intro e
  have := (List.getElem_inj (h₀ := by simp; omega) (h₁ := by simpa using hk) h).1 (show (l.map (·.name))[j]'(by simp; omega) = (l.map (·.name))[k]'(by simpa using hk) by simpa using e)
  omega
theorem covered_self {l : List Sig} (h : Names1 l) {s : Sig} (hs : s ∈ l) : covered l s = true := by
  obtain ⟨k, hk, rfl⟩ := List.mem_iff_getElem.1 hs
  simp [covered, getSi, findSi_self h hk, hk, alike_self]
theorem missL_self {l : List Sig} (h : Names1 l) : missL l l = [] := by
  unfold missL
  rw [List.filter_eq_nil_iff.2 fun s hs => by simp [covered_self h hs]]
  rfl
theorem missL_nil (l : List Sig) : missL [] l = l.map (·.name) := by
  unfold missL
  rw [List.filter_eq_self.2 fun s _ => by simp [covered, findSi]]
theorem Co.two {x : Bool} {r r' s s' : D} (h : CoL r.cells r'.cells) (h2 : CoL s.cells s'.cells) : Co (.sl x [r, s]) (.sl false [r', s']) :=
  Co.sl (fun e => by cases e) rfl (fun i a a' ha ha' => by
    match i, ha, ha' with
    | 0, ha, ha' => cases ha; cases ha'; exact h
    | 1, ha, ha' => cases ha; cases ha'; exact h2
    | i + 2, ha, ha' => cases ha)

def sI : Str := ⟨#[73]⟩
def sN : Str := ⟨#[110]⟩
def sM : Str := ⟨#[109]⟩
def sV : Str := ⟨#[118]⟩
def sigN : Sig := ⟨sN, [], [], .mk sT1 [] 0, 0⟩
def sigM : Sig := ⟨sM, [], [], .mk sT1 [] 0, 0⟩
def decI : Dec := ⟨2, sI, [], [], [sigN, sigM], ByteArray.empty, [], zeroSi, zeroEx, 0⟩
def prgI : Prg := ⟨[decI], zeroEx⟩
def tyI : Ty := .mk sI [] 0
def envI : List Formal := [⟨sA1, tyI, 0⟩]
def tyA : Ty := .mk sA1 [] 0
theorem sm_sig (n : Str) (h : n.size ≤ 100) : smSi ⟨n, [], [], .mk sT1 [] 0, 0⟩ := ⟨by show n.size ≤ _; omega, ⟨by simp, by simp⟩, ⟨by simp, by simp⟩, sm1 _ (by decide)⟩
theorem sm_prgI : smPr prgI := by
  have hz := smDe_zero
  refine ⟨⟨by simp [prgI], ?_⟩, hz.2.2.2.2.2.2.2⟩
  intro e h
  simp only [prgI, List.mem_singleton] at h
  subst h
  refine ⟨by decide, ⟨by simp [decI], by simp [decI]⟩, ⟨by simp [decI], by simp [decI]⟩, ⟨by simp [decI], ?_⟩, by decide, ⟨by simp [decI], by simp [decI]⟩, hz.2.2.2.2.2.2.1, hz.2.2.2.2.2.2.2⟩
  intro s hs
  simp only [decI, List.mem_cons, List.not_mem_nil, or_false] at hs
  rcases hs with rfl | rfl
  · exact sm_sig sN (by decide)
  · exact sm_sig sM (by decide)
def sN' : Sig := specSi decI [] sigN
def sM' : Sig := specSi decI [] sigM
theorem tyDeI : tyDe prgI sI = some decI := by simp [tyDe, tyFind, prgI, isDe, decI]
theorem instI : instOf prgI tyI 2 = true := by simp [instOf, kindOf, fmsOf, tyI, Ty.name, Ty.args, tyDeI, decI]
theorem specsI : specsTo decI [] 2 = [sN', sM'] := by
  have h : ¬ sN = sM := by decide
  simp [specsTo, decI, seen, sigN, sigM, h, sN', sM']
theorem spI : spOf prgI tyI = [sN', sM'] := by
  have h1 : tyI.name = sI := rfl
  have h2 : tyI.args = [] := rfl
  unfold spOf
  rw [instI, if_pos rfl, h1, h2, tyDeI]
  exact specsI
def setI : List Sig := [sM', sN']
theorem srtI : srt ltSi [sN', sM'] = setI := by
  have hn : Names1 [sN', sM'] := by
    show ([sN, sM] : List Str).Nodup
    decide
  refine (sigs_uniq hn (List.Perm.swap _ _ _) ?_).symm
  have : Go.Proofs.ltOf cfSi sN' sM' = false := by
    show ltS sN sM = false
    decide
  simp [this]
theorem setI1 : setOf prgI [] tyI = setI := by
  have h : boundOf [] tyI = none := by simp [boundOf]
  unfold setOf baseOf
  rw [h]
  simp only [Option.getD_none, instI, true_or, if_true, spI]
  exact srtI
theorem setI2 : setOf prgI envI tyA = setI := by
  have h : boundOf envI tyA = some tyI := by simp [boundOf, envI, tyA, Ty.args, Ty.name, isS]
  unfold setOf baseOf
  rw [h]
  simp only [Option.getD_some, instI, true_or, if_true, spI]
  exact srtI
theorem namesI : Names1 setI := by
  show ([sM, sN] : List Str).Nodup
  decide
theorem two2 : decide (((2:Nat):Int) = 2) = true := by decide
theorem two0 : (0:Int) < ((2:Nat):Int) := by decide
theorem at0 (r : D) (l : List D) : at? (r :: l) 0 = some r := rfl
theorem decide_self (x : Str) : decide (x = x) = true := by simp
theorem slI : slSi setI = .sl false [.agg (siC sM'), .agg (siC sN')] := rfl
theorem siM : siC sM' = [encS ⟨#[109]⟩, slS [], slFm [], encS sT1, slTy [], dI 0, dI 0] := rfl
theorem siN : siC sN' = [encS ⟨#[110]⟩, slS [], slFm [], encS sT1, slTy [], dI 0, dI 0] := rfl
theorem findI : findSi setI sN = some 1 := findSi_self namesI (k := 1) (by decide)
theorem getI : getSi setI sN = sN' := by
  unfold getSi
  rw [findI]
  rfl

set_option maxRecDepth 100000 in
theorem awake12_calls (g d : Nat) : ACalls E 7 [] [] g d (dB true) [] := by
  have sm := sm_prgI
  have smI : smTy tyI := sm1 _ (by decide)
  have smA : smTy tyA := sm1 _ (by decide)
  have smE : ∀ f ∈ envI, smFm f := by
    intro f hf
    simp only [envI, List.mem_singleton] at hf
    subst hf
    exact ⟨by decide, smI⟩
  have smS : ∀ s ∈ setI, smSi s := by rw [← setI1]; exact (setOf_sm sm (by simp) smI).2
  have c1 := set_calls prgI sm [] (by simp) (by simp) tyI smI
  rw [setI1] at c1
  have c2 := find12_calls 0 prgI sm envI (by decide) smE tyA smA sN
  rw [setI2, getI, findI] at c2
  have c3 := covers_calls setI setI (by decide) smS (by decide) smS
  rw [missL_self namesI] at c3
  have c4 := covers_calls [] setI (by simp) (by simp) (by decide) smS
  have c5 := missing_calls [] setI (by simp) (by simp) (by decide) smS
  rw [missL_nil] at c4 c5
  have e3 : decide (List.map (fun x => x.name) setI = []) = false := by decide
  have e5 : slS (List.map (fun x : Sig => x.name) setI) = .sl false [encS ⟨#[109]⟩, encS ⟨#[110]⟩] := rfl
  rw [e3] at c4
  rw [e5] at c5
  rw [slI] at c1 c3 c4 c5
  have c2' : ∀ (g d : Nat), ACalls E 13 [encTb prgI, slFm envI, encTy tyA, encS sN] [] g d (.tup [.agg (siC sN'), dB true]) [] := c2
  simp only [siM, siN] at c1 c2' c3 c4 c5
  refine acalls_of_awp (fn := Tryz.f7) (N := 67) Tryz.call7 Tryz.func7 rfl rfl (by simp) ?_
  simp only [go_sem]
  refine awp_seq_k (fun K1 hK1 => ?_)
  refine awp_plain 1 (by kernel_rfl) rfl (fun g0 hg0 => ?_)
  simp only [go_sem]
  refine hK1 _ ?_
  refine awp_seq_k (fun K2 hK2 => ?_)
  refine awp_plain 4 (by kernel_rfl) rfl (fun g1 hg1 => ?_)
  simp only [go_sem]
  refine hK2 _ ?_
  refine awp_seq_k (fun K3 hK3 => ?_)
  refine awp_plain 4 (by kernel_rfl) rfl (fun g2 hg2 => ?_)
  simp only [go_sem]
  refine hK3 _ ?_
  refine awp_seq_k (fun K4 hK4 => ?_)
  refine awp_plain 8 (by kernel_rfl) rfl (fun g3 hg3 => ?_)
  simp only [go_sem]
  refine hK4 _ ?_
  refine awp_seq_k (fun K5 hK5 => ?_)
  refine awp_ops (by kernel_rfl) rfl (fun g4 hg4 ops4 KR4 hops4 hKR4 => ?_)
  refine aops_eval 1 hops4 ?_
  simp only [go_sem]
  refine aops_pure hops4 rfl rfl rfl (tableNew_calls prgI sm _ _) (.cons (.agg (.cons (.one (.cons (.refl _) (.cons (.refl _) (.cons (.nil _) (.cons (.nil _) (.cons (Co.two (.cons (.refl _) (.cons (.nil _) (.cons (.nil _) (.cons (.refl _) (.cons (.nil _) (.cons (.refl _) (.cons (.refl _) .nil))))))) (.cons (.refl _) (.cons (.nil _) (.cons (.nil _) (.cons (.refl _) (.cons (.nil _) (.cons (.refl _) (.cons (.refl _) .nil)))))))) (.cons (.refl _) (.cons (.nil _) (.cons (.refl _) (.cons (.nil _) (.cons (.nil _) (.cons (.refl _) (.cons (.nil _) (.cons (.refl _) (.cons (.refl _) (.cons (.refl _) (.cons (.refl _) (.cons (.refl _) (.cons (.nil _) (.cons (.refl _) (.cons (.nil _) (.cons (.nil _) (.cons (.refl _) (.cons (.refl _) .nil)))))))))))))))))))))))) (.cons (.refl _) (.cons (.refl _) (.cons (.refl _) (.cons (.nil _) (.cons (.refl _) (.cons (.nil _) (.cons (.nil _) (.cons (.refl _) .nil)))))))))) .nil) ?_
  refine aops_eval 1 hops4 ?_
  simp only [go_sem]
  refine aops_pure hops4 rfl rfl rfl (c1 _ _) (.cons (.refl _) (.cons (.nil _) (.cons (.agg (.cons (.refl _) (.cons (.nil _) (.cons (.refl _) .nil)))) .nil))) ?_
  refine aops_last 1 hops4 ?_
  simp only [go_sem]
  refine hKR4 _ ?_
  refine hK5 _ ?_
  refine awp_seq_k (fun K6 hK6 => ?_)
  refine awp_plain 4 (by kernel_rfl) rfl (fun g5 hg5 => ?_)
  simp only [go_sem]
  refine hK6 _ ?_
  refine awp_seq_k (fun K7 hK7 => ?_)
  refine awp_ops (by kernel_rfl) rfl (fun g6 hg6 ops6 KR6 hops6 hKR6 => ?_)
  refine aops_eval 1 hops6 ?_
  simp only [go_sem]
  refine aops_pure hops6 rfl rfl rfl (tableNew_calls prgI sm _ _) (.cons (.agg (.cons (.one (.cons (.refl _) (.cons (.refl _) (.cons (.nil _) (.cons (.nil _) (.cons (Co.two (.cons (.refl _) (.cons (.nil _) (.cons (.nil _) (.cons (.refl _) (.cons (.nil _) (.cons (.refl _) (.cons (.refl _) .nil))))))) (.cons (.refl _) (.cons (.nil _) (.cons (.nil _) (.cons (.refl _) (.cons (.nil _) (.cons (.refl _) (.cons (.refl _) .nil)))))))) (.cons (.refl _) (.cons (.nil _) (.cons (.refl _) (.cons (.nil _) (.cons (.nil _) (.cons (.refl _) (.cons (.nil _) (.cons (.refl _) (.cons (.refl _) (.cons (.refl _) (.cons (.refl _) (.cons (.refl _) (.cons (.nil _) (.cons (.refl _) (.cons (.nil _) (.cons (.nil _) (.cons (.refl _) (.cons (.refl _) .nil)))))))))))))))))))))))) (.cons (.refl _) (.cons (.refl _) (.cons (.refl _) (.cons (.nil _) (.cons (.refl _) (.cons (.nil _) (.cons (.nil _) (.cons (.refl _) .nil)))))))))) .nil) ?_
  refine aops_eval 2 hops6 ?_
  simp only [go_sem]
  refine aops_pure hops6 rfl rfl rfl (c2' _ _) (.cons (.refl _) (.cons (.one (.cons (.refl _) (.cons (.refl _) (.cons (.nil _) (.cons (.refl _) (.cons (.refl _) .nil)))))) (.cons (.agg (.cons (.refl _) (.cons (.nil _) (.cons (.refl _) .nil)))) (.cons (.refl _) .nil)))) ?_
  refine aops_last 6 hops6 ?_
  simp only [go_sem]
  refine hKR6 _ ?_
  refine hK7 _ ?_
  refine awp_seq_k (fun K8 hK8 => ?_)
  refine awp_ops (by kernel_rfl) rfl (fun g7 hg7 ops7 KR7 hops7 hKR7 => ?_)
  refine aops_eval 21 hops7 ?_
  simp only [go_sem, two2, decide_true, at0]
  refine aops_pure hops7 rfl rfl rfl (c3 _ _) (.cons (.refl _) (.cons (.refl _) .nil)) ?_
  refine aops_eval 3 hops7 ?_
  simp only [go_sem, decide_true]
  refine aops_pure hops7 rfl rfl rfl (c4 _ _) (.cons (.nil _) (.cons (.refl _) .nil)) ?_
  refine aops_eval 4 hops7 ?_
  simp only [go_sem]
  refine aops_pure hops7 rfl rfl rfl (c5 _ _) (.cons (.nil _) (.cons (.refl _) .nil)) ?_
  refine aops_last 4 hops7 ?_
  simp only [go_sem]
  refine hKR7 _ ?_
  refine hK8 _ ?_
  refine awp_ret ?_
  refine ends_ev rfl ?_
  simp only [go_sem]
  exact Co.refl _

end Go.Proofs.T


namespace Go.Proofs.T
open Go Go.Ab Go.RowKit

theorem fewPr_sm {p : Prg} (h : decide (cntPr p ≤ 600) = true) : smPr p := (cntPr_sm p (of_decide_eq_true h)).1
theorem fewTy_sm {x : Ty} (h : decide (count x 0 ≤ 200) = true) : smTy x := count_sm x 0 (by have := of_decide_eq_true h; omega)

set_option maxRecDepth 20000 in
theorem mthMatches_calls (p : Prg) (env : List Formal) (x : Ty) (m : Str) (hp : okPr p) (he : env.length ≤ 9223372036854775807 ∧ ∀ f ∈ env, okFm f) (hx : okTy x) (_ : m.size ≤ 9223372036854775807) (g d : Nat) :
    ACalls E 3 [encPr p, slFm env, encTy x, encS m] [] g d (dB true) [] := by
  refine acalls_of_awp (fn := Tryz.f3) (N := 79) Tryz.call3 Tryz.func3 rfl rfl (by simp) ?_
  simp only [go_sem]
  refine awp_seq_k (fun K1 hK1 => ?_)
  refine awp_plain 3 (by kernel_rfl) rfl (fun g0 hg0 => ?_)
  simp only [go_sem]
  refine hK1 _ ?_
  refine awp_seq_k (fun K2 hK2 => ?_)
  refine awp_seq_k (fun K3 hK3 => ?_)
  refine awp_ops (by kernel_rfl) rfl (fun g1 hg1 ops1 KR1 hops1 hKR1 => ?_)
  refine aops_eval 0 hops1 ?_
  simp only [go_sem]
  refine aops_pure hops1 rfl rfl rfl (awake12_calls _ _) (CoL.refl _) ?_
  refine aops_eval 3 hops1 ?_
  simp only [go_sem]
  cases hfa : decide (cntPr p ≤ 600) with
  | false =>
    refine aops_pure hops1 rfl rfl rfl (few06_calls p hp _ _) (CoL.refl _) ?_
    refine aops_last 17 hops1 ?_
    simp only [go_sem, hfa]
    refine hKR1 _ ?_
    refine hK3 _ ?_
    refine awp_t rfl ?_
    refine awp_seq_k (fun K4 hK4 => ?_)
    refine awp_ops (by kernel_rfl) rfl (fun g2 hg2 ops2 KR2 hops2 hKR2 => ?_)
    refine aops_eval 0 hops2 ?_
    simp only [go_sem]
    refine aops_pure hops2 rfl rfl rfl (awake12_calls _ _) (CoL.refl _) ?_
    refine aops_last 1 hops2 ?_
    simp only [go_sem]
    refine hKR2 _ ?_
    refine hK4 _ ?_
    refine awp_ret ?_
    refine ends_ev rfl ?_
    simp only [go_sem]
    exact Co.refl _
  | true =>
    refine aops_pure hops1 rfl rfl rfl (few06_calls p hp _ _) (CoL.refl _) ?_
    refine aops_eval 4 hops1 ?_
    simp only [go_sem, hfa]
    cases hfc : fewEnv env with
    | false =>
      refine aops_pure hops1 rfl rfl rfl (fewEnv_calls env he _ _) (CoL.refl _) ?_
      refine aops_last 12 hops1 ?_
      simp only [go_sem, hfc]
      refine hKR1 _ ?_
      refine hK3 _ ?_
      refine awp_t rfl ?_
      refine awp_seq_k (fun K5 hK5 => ?_)
      refine awp_ops (by kernel_rfl) rfl (fun g2 hg2 ops2 KR2 hops2 hKR2 => ?_)
      refine aops_eval 0 hops2 ?_
      simp only [go_sem]
      refine aops_pure hops2 rfl rfl rfl (awake12_calls _ _) (CoL.refl _) ?_
      refine aops_last 1 hops2 ?_
      simp only [go_sem]
      refine hKR2 _ ?_
      refine hK5 _ ?_
      refine awp_ret ?_
      refine ends_ev rfl ?_
      simp only [go_sem]
      exact Co.refl _
    | true =>
      refine aops_pure hops1 rfl rfl rfl (fewEnv_calls env he _ _) (CoL.refl _) ?_
      refine aops_eval 4 hops1 ?_
      simp only [go_sem, hfc]
      cases hfb : decide (count x 0 ≤ 200) with
      | false =>
        refine aops_pure hops1 rfl rfl rfl (few04_calls x hx _ _) (CoL.refl _) ?_
        refine aops_last 7 hops1 ?_
        simp only [go_sem, hfb]
        refine hKR1 _ ?_
        refine hK3 _ ?_
        refine awp_t rfl ?_
        refine awp_seq_k (fun K6 hK6 => ?_)
        refine awp_ops (by kernel_rfl) rfl (fun g2 hg2 ops2 KR2 hops2 hKR2 => ?_)
        refine aops_eval 0 hops2 ?_
        simp only [go_sem]
        refine aops_pure hops2 rfl rfl rfl (awake12_calls _ _) (CoL.refl _) ?_
        refine aops_last 1 hops2 ?_
        simp only [go_sem]
        refine hKR2 _ ?_
        refine hK6 _ ?_
        refine awp_ret ?_
        refine ends_ev rfl ?_
        simp only [go_sem]
        exact Co.refl _
      | true =>
        by_cases hml : (300 : Int) < (m.size : Int)
        · refine aops_pure hops1 rfl rfl rfl (few04_calls x hx _ _) (CoL.refl _) ?_
          refine aops_last 7 hops1 ?_
          simp only [go_sem, hfb, hml, decide_true]
          refine hKR1 _ ?_
          refine hK3 _ ?_
          refine awp_t rfl ?_
          refine awp_seq_k (fun K7 hK7 => ?_)
          refine awp_ops (by kernel_rfl) rfl (fun g2 hg2 ops2 KR2 hops2 hKR2 => ?_)
          refine aops_eval 0 hops2 ?_
          simp only [go_sem]
          refine aops_pure hops2 rfl rfl rfl (awake12_calls _ _) (CoL.refl _) ?_
          refine aops_last 1 hops2 ?_
          simp only [go_sem]
          refine hKR2 _ ?_
          refine hK7 _ ?_
          refine awp_ret ?_
          refine ends_ev rfl ?_
          simp only [go_sem]
          exact Co.refl _
        · refine aops_pure hops1 rfl rfl rfl (few04_calls x hx _ _) (CoL.refl _) ?_
          refine aops_last 7 hops1 ?_
          simp only [go_sem, hfb, hml, decide_false]
          refine hKR1 _ ?_
          refine hK3 _ ?_
          refine awp_f rfl ?_
          refine awp_skip ?_
          refine hK2 _ ?_
          refine awp_seq_k (fun K8 hK8 => ?_)
          have sm := fewPr_sm hfa
          have sx := fewTy_sm hfb
          have ml := fewEnv_sm hfc
          have hs := setOf_sm sm ml.2 sx
          have hs1 := hs.1
          have c6 := sigs12_calls (setOf p env x) (by omega) (fun s h => (hs.2 s h).ok)
          have c1 := set_calls p sm env (by have := ml.1; omega) ml.2 x sx
          have hr : ∀ t : Sig, refSi true t t = true := fun t => refSi_self _ t
          refine awp_ops (by kernel_rfl) rfl (fun g3 hg3 ops3 KR3 hops3 hKR3 => ?_)
          refine aops_eval 1 hops3 ?_
          simp only [go_sem]
          refine aops_pure hops3 rfl rfl rfl (tableNew_calls p sm _ _) (CoL.refl _) ?_
          refine aops_last 1 hops3 ?_
          simp only [go_sem]
          refine hKR3 _ ?_
          refine hK8 _ ?_
          refine awp_seq_k (fun K9 hK9 => ?_)
          refine awp_ops (by kernel_rfl) rfl (fun g4 hg4 ops4 KR4 hops4 hKR4 => ?_)
          refine aops_eval 3 hops4 ?_
          simp only [go_sem]
          refine aops_pure hops4 rfl rfl rfl (refSet_calls p sm env (by have := ml.1; omega) ml.2 x sx _ _) (CoL.refl _) ?_
          refine aops_last 1 hops4 ?_
          simp only [go_sem]
          refine hKR4 _ ?_
          refine hK9 _ ?_
          refine awp_seq_k (fun K10 hK10 => ?_)
          refine awp_ops (by kernel_rfl) rfl (fun g5 hg5 ops5 KR5 hops5 hKR5 => ?_)
          refine aops_eval 4 hops5 ?_
          simp only [go_sem]
          have c2 := find12_calls 0 p sm env (by have := ml.1; omega) ml.2 x sx m
          cases hmi : findSi (setOf p env x) m with
          | none =>
            have hg : getSi (setOf p env x) m = zeroSi := by simp [getSi, hmi]
            have hz : ¬ (0 : Int) ≤ -1 := by decide
            rw [hg, hmi] at c2
            refine aops_pure hops5 rfl rfl rfl (c2 _ _) (CoL.refl _) ?_
            refine aops_last 6 hops5 ?_
            simp only [go_sem]
            refine hKR5 _ ?_
            refine hK10 _ ?_
            refine awp_seq_k (fun K11 hK11 => ?_)
            refine awp_ops (by kernel_rfl) rfl (fun g6 hg6 ops6 KR6 hops6 hKR6 => ?_)
            refine aops_eval 2 hops6 ?_
            simp only [go_sem]
            refine aops_pure hops6 rfl rfl rfl (refFind12_calls (setOf p env x) m (by omega) _ _) (CoL.refl _) ?_
            refine aops_last 1 hops6 ?_
            simp only [go_sem, hmi, optI]
            refine hKR6 _ ?_
            refine hK11 _ ?_
            refine awp_seq_k (fun K12 hK12 => ?_)
            refine awp_plain 3 (by kernel_rfl) rfl (fun g7 hg7 => ?_)
            simp only [go_sem]
            refine hK12 _ ?_
            refine awp_seq_k (fun K13 hK13 => ?_)
            refine awp_seq_k (fun K14 hK14 => ?_)
            refine awp_plain 2 (by kernel_rfl) rfl (fun g8 hg8 => ?_)
            simp only [go_sem, hz, decide_false]
            refine hK14 _ ?_
            refine awp_f rfl ?_
            refine awp_skip ?_
            refine hK13 _ ?_
            refine awp_seq_k (fun K15 hK15 => ?_)
            refine awp_ops (by kernel_rfl) rfl (fun g10 hg10 ops10 KR10 hops10 hKR10 => ?_)
            refine aops_eval 3 hops10 ?_
            simp only [go_sem]
            refine aops_pure hops10 rfl rfl rfl (c1 _ _) (CoL.refl _) ?_
            refine aops_eval 1 hops10 ?_
            simp only [go_sem]
            refine aops_pure hops10 rfl rfl rfl (c6 _ _) (CoL.refl _) ?_
            refine aops_eval 9 hops10 ?_
            simp only [go_sem, hz, decide_false, decide_true]
            refine aops_pure hops10 rfl rfl rfl (refSig_calls true zeroSi zeroSi smSi_zero.ok _ _) (.cons (.refl _) (.cons coZeroSi (.cons (.refl _) .nil))) ?_
            refine aops_last 2 hops10 ?_
            simp only [go_sem, hr]
            refine hKR10 _ ?_
            refine hK15 _ ?_
            refine awp_ret ?_
            refine ends_ev rfl ?_
            simp only [go_sem]
            exact Co.refl _
          | some k =>
            obtain ⟨hk, _⟩ := List.findIdx?_eq_some_iff_getElem.1 hmi
            have hg : getSi (setOf p env x) m = (setOf p env x)[k] := by simp [getSi, hmi, List.getElem?_eq_getElem hk]
            have hz : (0 : Int) ≤ k := by omega
            rw [hg, hmi] at c2
            refine aops_pure hops5 rfl rfl rfl (c2 _ _) (CoL.refl _) ?_
            refine aops_last 6 hops5 ?_
            simp only [go_sem]
            refine hKR5 _ ?_
            refine hK10 _ ?_
            refine awp_seq_k (fun K16 hK16 => ?_)
            refine awp_ops (by kernel_rfl) rfl (fun g6 hg6 ops6 KR6 hops6 hKR6 => ?_)
            refine aops_eval 2 hops6 ?_
            simp only [go_sem]
            refine aops_pure hops6 rfl rfl rfl (refFind12_calls (setOf p env x) m (by omega) _ _) (CoL.refl _) ?_
            refine aops_last 1 hops6 ?_
            simp only [go_sem, hmi, optI]
            refine hKR6 _ ?_
            refine hK16 _ ?_
            refine awp_seq_k (fun K17 hK17 => ?_)
            refine awp_plain 3 (by kernel_rfl) rfl (fun g7 hg7 => ?_)
            simp only [go_sem]
            refine hK17 _ ?_
            refine awp_seq_k (fun K18 hK18 => ?_)
            refine awp_seq_k (fun K19 hK19 => ?_)
            refine awp_plain 2 (by kernel_rfl) rfl (fun g8 hg8 => ?_)
            simp only [go_sem, hz, decide_true]
            refine hK19 _ ?_
            refine awp_t rfl ?_
            refine awp_plain 5 (by kernel_rfl) rfl (fun g9 hg9 => ?_)
            simp only [go_sem, getM hk]
            refine hK18 _ ?_
            refine awp_seq_k (fun K20 hK20 => ?_)
            refine awp_ops (by kernel_rfl) rfl (fun g10 hg10 ops10 KR10 hops10 hKR10 => ?_)
            refine aops_eval 3 hops10 ?_
            simp only [go_sem]
            refine aops_pure hops10 rfl rfl rfl (c1 _ _) (CoL.refl _) ?_
            refine aops_eval 1 hops10 ?_
            simp only [go_sem]
            refine aops_pure hops10 rfl rfl rfl (c6 _ _) (CoL.refl _) ?_
            refine aops_eval 9 hops10 ?_
            simp only [go_sem, hz, decide_true]
            refine aops_pure hops10 rfl rfl rfl (refSig_calls true _ _ ((hs.2 _ (List.getElem_mem hk)).ok) _ _) (CoL.refl _) ?_
            refine aops_last 2 hops10 ?_
            simp only [go_sem, hr]
            refine hKR10 _ ?_
            refine hK20 _ ?_
            refine awp_ret ?_
            refine ends_ev rfl ?_
            simp only [go_sem]
            exact Co.refl _
end Go.Proofs.T


namespace Go.Proofs.T
open Go Go.Ab Go.RowKit

/-! ## A variable is taken at its bound -/

def envV (x : Ty) : List Formal := [⟨sV, x, 0⟩]
def tyV : Ty := .mk sV [] 0
theorem setOf_V (p : Prg) (x : Ty) : setOf p (envV x) tyV = srt ltSi (spOf p x) := by
  have h : boundOf (envV x) tyV = some x := by simp [boundOf, envV, tyV, Ty.args, Ty.name, isS]
  unfold setOf baseOf
  rw [h]
  simp
theorem srt_nilSi : srt ltSi ([] : List Sig) = [] := srt_nil _
theorem boundOf_nil (x : Ty) : boundOf [] x = none := by simp [boundOf]
theorem setOf_nil2 {p : Prg} {x : Ty} (h : kindOf p x.name = 2) : setOf p [] x = srt ltSi (spOf p x) := by
  have h2 : ¬ ((2 : Int) = 1) := by decide
  have hm : mthsOf p x = [] := by simp [mthsOf, instOf, h, h2]
  unfold setOf baseOf
  rw [boundOf_nil]
  simp only [Option.getD_none, Option.isSome_none, Bool.false_eq_true, or_false, hm]
  cases hi : instOf p x 2 with
  | true => simp
  | false => simp [spOf, hi]
theorem spOf_not2 {p : Prg} {x : Ty} (h : ¬ kindOf p x.name = 2) : spOf p x = [] := by simp [spOf, instOf, h]

set_option maxRecDepth 20000 in
theorem mthVariables_calls (p : Prg) (x : Ty) (hp : okPr p) (hx : okTy x) (g d : Nat) :
    ACalls E 5 [encPr p, encTy x] [] g d (dB true) [] := by
  refine acalls_of_awp (fn := Tryz.f5) (N := 50) Tryz.call5 Tryz.func5 rfl rfl (by simp) ?_
  simp only [go_sem]
  refine awp_seq_k (fun K1 hK1 => ?_)
  refine awp_plain 3 (by kernel_rfl) rfl (fun g0 hg0 => ?_)
  simp only [go_sem]
  refine hK1 _ ?_
  refine awp_seq_k (fun K2 hK2 => ?_)
  refine awp_seq_k (fun K3 hK3 => ?_)
  refine awp_ops (by kernel_rfl) rfl (fun g1 hg1 ops1 KR1 hops1 hKR1 => ?_)
  refine aops_eval 0 hops1 ?_
  simp only [go_sem]
  refine aops_pure hops1 rfl rfl rfl (awake12_calls _ _) (CoL.refl _) ?_
  refine aops_eval 3 hops1 ?_
  simp only [go_sem]
  cases hfa : decide (cntPr p ≤ 600) with
  | false =>
    refine aops_pure hops1 rfl rfl rfl (few06_calls p hp _ _) (CoL.refl _) ?_
    refine aops_last 7 hops1 ?_
    simp only [go_sem, hfa]
    refine hKR1 _ ?_
    refine hK3 _ ?_
    refine awp_t rfl ?_
    refine awp_seq_k (fun K4 hK4 => ?_)
    refine awp_ops (by kernel_rfl) rfl (fun g2 hg2 ops2 KR2 hops2 hKR2 => ?_)
    refine aops_eval 0 hops2 ?_
    simp only [go_sem]
    refine aops_pure hops2 rfl rfl rfl (awake12_calls _ _) (CoL.refl _) ?_
    refine aops_last 1 hops2 ?_
    simp only [go_sem]
    refine hKR2 _ ?_
    refine hK4 _ ?_
    refine awp_ret ?_
    refine ends_ev rfl ?_
    simp only [go_sem]
    exact Co.refl _
  | true =>
    refine aops_pure hops1 rfl rfl rfl (few06_calls p hp _ _) (CoL.refl _) ?_
    refine aops_eval 4 hops1 ?_
    simp only [go_sem, hfa]
    cases hfb : decide (count x 0 ≤ 200) with
    | false =>
      refine aops_pure hops1 rfl rfl rfl (few04_calls x hx _ _) (CoL.refl _) ?_
      refine aops_last 2 hops1 ?_
      simp only [go_sem, hfb]
      refine hKR1 _ ?_
      refine hK3 _ ?_
      refine awp_t rfl ?_
      refine awp_seq_k (fun K5 hK5 => ?_)
      refine awp_ops (by kernel_rfl) rfl (fun g2 hg2 ops2 KR2 hops2 hKR2 => ?_)
      refine aops_eval 0 hops2 ?_
      simp only [go_sem]
      refine aops_pure hops2 rfl rfl rfl (awake12_calls _ _) (CoL.refl _) ?_
      refine aops_last 1 hops2 ?_
      simp only [go_sem]
      refine hKR2 _ ?_
      refine hK5 _ ?_
      refine awp_ret ?_
      refine ends_ev rfl ?_
      simp only [go_sem]
      exact Co.refl _
    | true =>
      refine aops_pure hops1 rfl rfl rfl (few04_calls x hx _ _) (CoL.refl _) ?_
      refine aops_last 2 hops1 ?_
      simp only [go_sem, hfb]
      refine hKR1 _ ?_
      refine hK3 _ ?_
      refine awp_f rfl ?_
      refine awp_skip ?_
      refine hK2 _ ?_
      refine awp_seq_k (fun K6 hK6 => ?_)
      have sm := fewPr_sm hfa
      have sx := fewTy_sm hfb
      have sV2 : ∀ f ∈ envV x, smFm f := by
        intro f hf
        simp only [envV, List.mem_singleton] at hf
        subst hf
        exact ⟨show sV.size ≤ 1000000 by decide, sx⟩
      have smV : smTy tyV := sm1 _ (by decide)
      have c1 := set_calls p sm (envV x) (by simp [envV]) sV2 tyV smV
      have hs := setOf_sm sm sV2 smV
      rw [setOf_V] at c1 hs
      have c6 := sigs12_calls _ (by have := hs.1; omega) (fun s h => (hs.2 s h).ok)
      have c4 := set_calls p sm [] (by simp) (by simp) x sx
      have c5 := refSet_calls p sm [] (by simp) (by simp) x sx
      have hk := tbKind_calls p x.name
      refine awp_ops (by kernel_rfl) rfl (fun g3 hg3 ops3 KR3 hops3 hKR3 => ?_)
      refine aops_eval 1 hops3 ?_
      simp only [go_sem]
      refine aops_pure hops3 rfl rfl rfl (tableNew_calls p sm _ _) (CoL.refl _) ?_
      refine aops_last 1 hops3 ?_
      simp only [go_sem]
      refine hKR3 _ ?_
      refine hK6 _ ?_
      refine awp_seq_k (fun K7 hK7 => ?_)
      refine awp_plain 4 (by kernel_rfl) rfl (fun g4 hg4 => ?_)
      simp only [go_sem]
      refine hK7 _ ?_
      refine awp_seq_k (fun K8 hK8 => ?_)
      refine awp_ops (by kernel_rfl) rfl (fun g5 hg5 ops5 KR5 hops5 hKR5 => ?_)
      refine aops_eval 3 hops5 ?_
      simp only [go_sem]
      refine aops_pure hops5 rfl rfl rfl (c1 _ _) (.cons (.refl _) (.cons (.one (.cons (.refl _) (.cons (.refl _) (.cons (.refl _) (.cons (.refl _) (.cons (.refl _) .nil)))))) (.cons (.agg (.cons (.refl _) (.cons (.nil _) (.cons (.refl _) .nil)))) .nil))) ?_
      refine aops_last 1 hops5 ?_
      simp only [go_sem]
      refine hKR5 _ ?_
      refine hK8 _ ?_
      refine awp_seq_k (fun K9 hK9 => ?_)
      refine awp_seq_k (fun K10 hK10 => ?_)
      refine awp_ops (by kernel_rfl) rfl (fun g6 hg6 ops6 KR6 hops6 hKR6 => ?_)
      refine aops_eval 3 hops6 ?_
      simp only [go_sem]
      by_cases h2 : kindOf p x.name = 2
      · rw [setOf_nil2 h2] at c4 c5
        refine aops_pure hops6 rfl rfl rfl (hk _ _) (CoL.refl _) ?_
        refine aops_last 1 hops6 ?_
        simp only [go_sem, h2, decide_true]
        refine hKR6 _ ?_
        refine hK10 _ ?_
        refine awp_t rfl ?_
        refine awp_seq_k (fun K11 hK11 => ?_)
        refine awp_ops (by kernel_rfl) rfl (fun g7 hg7 ops7 KR7 hops7 hKR7 => ?_)
        refine aops_eval 3 hops7 ?_
        simp only [go_sem]
        refine aops_pure hops7 rfl rfl rfl (c5 _ _) (.cons (.refl _) (.cons (.nil _) (.cons (.refl _) .nil))) ?_
        refine aops_pure hops7 rfl rfl rfl (c6 _ _) (CoL.refl _) ?_
        refine aops_eval 4 hops7 ?_
        simp only [go_sem]
        refine aops_pure hops7 rfl rfl rfl (c4 _ _) (.cons (.refl _) (.cons (.nil _) (.cons (.refl _) .nil))) ?_
        refine aops_pure hops7 rfl rfl rfl (c6 _ _) (CoL.refl _) ?_
        refine aops_last 2 hops7 ?_
        simp only [go_sem]
        refine hKR7 _ ?_
        refine hK11 _ ?_
        refine awp_ret ?_
        refine ends_ev rfl ?_
        simp only [go_sem]
        exact Co.refl _
      · have e := spOf_not2 h2
        refine aops_pure hops6 rfl rfl rfl (hk _ _) (CoL.refl _) ?_
        refine aops_last 1 hops6 ?_
        simp only [go_sem, h2, decide_false]
        refine hKR6 _ ?_
        refine hK10 _ ?_
        refine awp_f rfl ?_
        refine awp_skip ?_
        refine hK9 _ ?_
        refine awp_seq_k (fun K12 hK12 => ?_)
        refine awp_plain 4 (by kernel_rfl) rfl (fun g8 hg8 => ?_)
        simp only [go_sem, e, srt_nilSi, List.length_nil]
        refine hK12 _ ?_
        refine awp_ret ?_
        refine ends_ev rfl ?_
        simp only [go_sem]
        exact Co.refl _
end Go.Proofs.T


namespace Go.Proofs.T
open Go Go.Ab Go.RowKit

/-! ## What one set lacks of another -/

def decSet (l : List Sig) : Dec := ⟨0, ByteArray.empty, [], [], l, ByteArray.empty, [], zeroSi, zeroEx, 0⟩
def fewSet (l : List Sig) : Bool := decide (cntPr ⟨[decSet l], zeroEx⟩ ≤ 600)
theorem okPr_set {l : List Sig} (hl : l.length ≤ 9223372036854775807 ∧ ∀ s ∈ l, okSi s) : okPr ⟨[decSet l], zeroEx⟩ :=
  ⟨⟨by simp, fun x hx => by
    rw [List.mem_singleton.1 hx]
    exact ⟨by simp [decSet], ⟨by simp [decSet], by simp [decSet]⟩, ⟨by simp [decSet], by simp [decSet]⟩, hl, by simp [decSet], ⟨by simp [decSet], by simp [decSet]⟩, okSi_zero, okEx_zero⟩⟩, okEx_zero⟩
theorem fewSet_sm {l : List Sig} (h : fewSet l = true) : l.length ≤ 1000000 ∧ ∀ s ∈ l, smSi s := by
  have h1 := (cntPr_sm _ (of_decide_eq_true h)).1
  have h2 := h1.1.2 (decSet l) (by simp)
  obtain ⟨-, -, -, ⟨a, b⟩, -⟩ := h2
  exact ⟨by have : l.length ≤ _ := a; omega, b⟩
theorem fewSet_calls (l : List Sig) (hl : l.length ≤ 9223372036854775807 ∧ ∀ s ∈ l, okSi s) (g d : Nat) : ACalls E 8 [encPr ⟨[decSet l], zeroEx⟩] [] g d (dB (fewSet l)) [] := few06_calls _ (okPr_set hl) g d

set_option maxRecDepth 20000 in
theorem mthCovers_calls (a b : List Sig) (ha : a.length ≤ 9223372036854775807 ∧ ∀ s ∈ a, okSi s) (hb : b.length ≤ 9223372036854775807 ∧ ∀ s ∈ b, okSi s) (g d : Nat) :
    ACalls E 6 [slSi a, slSi b] [] g d (dB true) [] := by
  refine acalls_of_awp (fn := Tryz.f6) (N := 42) Tryz.call6 Tryz.func6 rfl rfl (by simp) ?_
  simp only [go_sem]
  refine awp_seq_k (fun K1 hK1 => ?_)
  refine awp_plain 1 (by kernel_rfl) rfl (fun g0 hg0 => ?_)
  simp only [go_sem]
  refine hK1 _ ?_
  refine awp_seq_k (fun K2 hK2 => ?_)
  refine awp_seq_k (fun K3 hK3 => ?_)
  refine awp_ops (by kernel_rfl) rfl (fun g1 hg1 ops1 KR1 hops1 hKR1 => ?_)
  refine aops_eval 0 hops1 ?_
  simp only [go_sem]
  refine aops_pure hops1 rfl rfl rfl (awake12_calls _ _) (CoL.refl _) ?_
  refine aops_eval 6 hops1 ?_
  simp only [go_sem]
  cases hfa : fewSet a with
  | false =>
    refine aops_pure hops1 rfl rfl rfl (fewSet_calls a ha _ _) (.cons (.agg (.cons (.one (.cons (.refl _) (.cons (.refl _) (.cons (.nil _) (.cons (.nil _) (.cons (.refl _) (.cons (.refl _) (.cons (.nil _) (.cons (.refl _) (.cons (.nil _) (.cons (.nil _) (.cons (.refl _) (.cons (.nil _) (.cons (.refl _) (.cons (.refl _) (.cons (.refl _) (.cons (.refl _) (.cons (.refl _) (.cons (.nil _) (.cons (.refl _) (.cons (.nil _) (.cons (.nil _) (.cons (.refl _) (.cons (.refl _) .nil)))))))))))))))))))))))) (.cons (.refl _) (.cons (.refl _) (.cons (.refl _) (.cons (.nil _) (.cons (.refl _) (.cons (.nil _) (.cons (.nil _) (.cons (.refl _) .nil)))))))))) .nil) ?_
    refine aops_last 10 hops1 ?_
    simp only [go_sem, hfa]
    refine hKR1 _ ?_
    refine hK3 _ ?_
    refine awp_t rfl ?_
    refine awp_seq_k (fun K4 hK4 => ?_)
    refine awp_ops (by kernel_rfl) rfl (fun g2 hg2 ops2 KR2 hops2 hKR2 => ?_)
    refine aops_eval 0 hops2 ?_
    simp only [go_sem]
    refine aops_pure hops2 rfl rfl rfl (awake12_calls _ _) (CoL.refl _) ?_
    refine aops_last 1 hops2 ?_
    simp only [go_sem]
    refine hKR2 _ ?_
    refine hK4 _ ?_
    refine awp_ret ?_
    refine ends_ev rfl ?_
    simp only [go_sem]
    exact Co.refl _
  | true =>
    refine aops_pure hops1 rfl rfl rfl (fewSet_calls a ha _ _) (.cons (.agg (.cons (.one (.cons (.refl _) (.cons (.refl _) (.cons (.nil _) (.cons (.nil _) (.cons (.refl _) (.cons (.refl _) (.cons (.nil _) (.cons (.refl _) (.cons (.nil _) (.cons (.nil _) (.cons (.refl _) (.cons (.nil _) (.cons (.refl _) (.cons (.refl _) (.cons (.refl _) (.cons (.refl _) (.cons (.refl _) (.cons (.nil _) (.cons (.refl _) (.cons (.nil _) (.cons (.nil _) (.cons (.refl _) (.cons (.refl _) .nil)))))))))))))))))))))))) (.cons (.refl _) (.cons (.refl _) (.cons (.refl _) (.cons (.nil _) (.cons (.refl _) (.cons (.nil _) (.cons (.nil _) (.cons (.refl _) .nil)))))))))) .nil) ?_
    refine aops_eval 7 hops1 ?_
    simp only [go_sem, hfa]
    cases hfb : fewSet b with
    | false =>
      refine aops_pure hops1 rfl rfl rfl (fewSet_calls b hb _ _) (.cons (.agg (.cons (.one (.cons (.refl _) (.cons (.refl _) (.cons (.nil _) (.cons (.nil _) (.cons (.refl _) (.cons (.refl _) (.cons (.nil _) (.cons (.refl _) (.cons (.nil _) (.cons (.nil _) (.cons (.refl _) (.cons (.nil _) (.cons (.refl _) (.cons (.refl _) (.cons (.refl _) (.cons (.refl _) (.cons (.refl _) (.cons (.nil _) (.cons (.refl _) (.cons (.nil _) (.cons (.nil _) (.cons (.refl _) (.cons (.refl _) .nil)))))))))))))))))))))))) (.cons (.refl _) (.cons (.refl _) (.cons (.refl _) (.cons (.nil _) (.cons (.refl _) (.cons (.nil _) (.cons (.nil _) (.cons (.refl _) .nil)))))))))) .nil) ?_
      refine aops_last 2 hops1 ?_
      simp only [go_sem, hfb]
      refine hKR1 _ ?_
      refine hK3 _ ?_
      refine awp_t rfl ?_
      refine awp_seq_k (fun K5 hK5 => ?_)
      refine awp_ops (by kernel_rfl) rfl (fun g2 hg2 ops2 KR2 hops2 hKR2 => ?_)
      refine aops_eval 0 hops2 ?_
      simp only [go_sem]
      refine aops_pure hops2 rfl rfl rfl (awake12_calls _ _) (CoL.refl _) ?_
      refine aops_last 1 hops2 ?_
      simp only [go_sem]
      refine hKR2 _ ?_
      refine hK5 _ ?_
      refine awp_ret ?_
      refine ends_ev rfl ?_
      simp only [go_sem]
      exact Co.refl _
    | true =>
      refine aops_pure hops1 rfl rfl rfl (fewSet_calls b hb _ _) (.cons (.agg (.cons (.one (.cons (.refl _) (.cons (.refl _) (.cons (.nil _) (.cons (.nil _) (.cons (.refl _) (.cons (.refl _) (.cons (.nil _) (.cons (.refl _) (.cons (.nil _) (.cons (.nil _) (.cons (.refl _) (.cons (.nil _) (.cons (.refl _) (.cons (.refl _) (.cons (.refl _) (.cons (.refl _) (.cons (.refl _) (.cons (.nil _) (.cons (.refl _) (.cons (.nil _) (.cons (.nil _) (.cons (.refl _) (.cons (.refl _) .nil)))))))))))))))))))))))) (.cons (.refl _) (.cons (.refl _) (.cons (.refl _) (.cons (.nil _) (.cons (.refl _) (.cons (.nil _) (.cons (.nil _) (.cons (.refl _) .nil)))))))))) .nil) ?_
      refine aops_last 2 hops1 ?_
      simp only [go_sem, hfb]
      refine hKR1 _ ?_
      refine hK3 _ ?_
      refine awp_f rfl ?_
      refine awp_skip ?_
      refine hK2 _ ?_
      refine awp_seq_k (fun K6 hK6 => ?_)
      have sa := fewSet_sm hfa
      have sb := fewSet_sm hfb
      have hl := missL_len a b
      have sb1 := sb.1
      refine awp_ops (by kernel_rfl) rfl (fun g3 hg3 ops3 KR3 hops3 hKR3 => ?_)
      refine aops_eval 2 hops3 ?_
      simp only [go_sem]
      refine aops_pure hops3 rfl rfl rfl (refMissing12_calls a b sa.1 sa.2 sb.1 sb.2 _ _) (CoL.refl _) ?_
      refine aops_last 1 hops3 ?_
      simp only [go_sem]
      refine hKR3 _ ?_
      refine hK6 _ ?_
      refine awp_seq_k (fun K7 hK7 => ?_)
      by_cases hm : missL a b = []
      · refine awp_ops (by kernel_rfl) rfl (fun g4 hg4 ops4 KR4 hops4 hKR4 => ?_)
        refine aops_eval 2 hops4 ?_
        simp only [go_sem]
        refine aops_pure hops4 rfl rfl rfl (missing_calls a b sa.1 sa.2 sb.1 sb.2 _ _) (CoL.refl _) ?_
        refine aops_eval 1 hops4 ?_
        simp only [go_sem]
        refine aops_pure hops4 rfl rfl rfl (equalS_calls _ (by omega) _ _) (CoL.refl _) ?_
        refine aops_eval 3 hops4 ?_
        simp only [go_sem]
        refine aops_pure hops4 rfl rfl rfl (covers_calls a b sa.1 sa.2 sb.1 sb.2 _ _) (CoL.refl _) ?_
        refine aops_last 6 hops4 ?_
        simp only [go_sem, hm, decide_true, List.length_nil]
        refine hKR4 _ ?_
        refine hK7 _ ?_
        refine awp_ret ?_
        refine ends_ev rfl ?_
        simp only [go_sem]
        exact Co.refl _
      · have hm2 : ¬ ((missL a b).length : Int) = 0 := by
          intro h
          have h : (missL a b).length = 0 := by omega
          exact hm (List.length_eq_zero_iff.1 h)
        refine awp_ops (by kernel_rfl) rfl (fun g4 hg4 ops4 KR4 hops4 hKR4 => ?_)
        refine aops_eval 2 hops4 ?_
        simp only [go_sem]
        refine aops_pure hops4 rfl rfl rfl (missing_calls a b sa.1 sa.2 sb.1 sb.2 _ _) (CoL.refl _) ?_
        refine aops_eval 1 hops4 ?_
        simp only [go_sem]
        refine aops_pure hops4 rfl rfl rfl (equalS_calls _ (by omega) _ _) (CoL.refl _) ?_
        refine aops_eval 3 hops4 ?_
        simp only [go_sem]
        refine aops_pure hops4 rfl rfl rfl (covers_calls a b sa.1 sa.2 sb.1 sb.2 _ _) (CoL.refl _) ?_
        refine aops_last 6 hops4 ?_
        simp only [go_sem, hm, hm2, decide_false]
        refine hKR4 _ ?_
        refine hK7 _ ?_
        refine awp_ret ?_
        refine ends_ev rfl ?_
        simp only [go_sem]
        exact Co.refl _
end Go.Proofs.T


namespace Go.Proofs.T
open Go Go.Ab Go.RowKit

/-! ## What an environment says first stands -/

def foundAt (l : List Formal) (t : Ty) : Int := if t.args.length = 0 then optI (l.findIdx? fun f => isS t.name f.name) else -1
theorem boundOf_eq (l : List Formal) (t : Ty) : boundOf l t = if t.args.length = 0 then (l.find? fun f => isS t.name f.name).map (·.bound) else none := by
  have key : ∀ l : List Formal, ((l.findIdx? fun f => isS t.name f.name).bind fun i => l[i]?.map (·.bound)) = (l.find? fun f => isS t.name f.name).map (·.bound) := by
    intro l
    induction l with
    | nil => rfl
    | cons a r ih =>
      cases h : isS t.name a.name with
      | true => simp [List.findIdx?_cons, h]
      | false =>
        simp only [List.findIdx?_cons, List.find?_cons, h, ← ih]
        cases r.findIdx? fun f => isS t.name f.name <;> simp
  unfold boundOf
  rw [key]
theorem foundAt_neg {l : List Formal} {t : Ty} (h : foundAt l t < 0) : boundOf l t = none := by
  rw [boundOf_eq]
  unfold foundAt at h
  split at h
  · rename_i h0
    rw [if_pos h0]
    cases hi : l.findIdx? fun f => isS t.name f.name with
    | some i => rw [hi] at h; simp [optI] at h; omega
    | none =>
      have : (l.find? fun f => isS t.name f.name) = none := by
        rw [List.find?_eq_none]
        rw [List.findIdx?_eq_none_iff] at hi
        intro x hx
        simp [hi x hx]
      rw [this]
      rfl
  · rename_i h0
    rw [if_neg h0]
theorem foundAt_pos {l : List Formal} {t : Ty} (h : ¬ foundAt l t < 0) : ∃ a, boundOf l t = some a := by
  unfold foundAt at h
  split at h
  · rename_i h0
    cases hi : l.findIdx? fun f => isS t.name f.name with
    | none => rw [hi] at h; exact absurd (by decide) h
    | some i =>
      obtain ⟨_, e⟩ := boundOf_some h0 hi
      exact ⟨_, e⟩
  · exact absurd (by decide) h
theorem boundOf_app (env more : List Formal) (x : Ty) (h : ¬ (foundAt env x < 0 ∧ 0 ≤ foundAt more x)) : boundOf (env ++ more) x = boundOf env x := by
  by_cases h1 : foundAt env x < 0
  · have h2 : foundAt more x < 0 := by omega
    have e1 := foundAt_neg h1
    have e2 := foundAt_neg h2
    rw [boundOf_eq] at e1 e2 ⊢
    rw [boundOf_eq env]
    split
    · rename_i h0
      rw [if_pos h0] at e1 e2
      rw [List.find?_append]
      cases hf : (env.find? fun f => isS x.name f.name) with
      | some a => rw [hf] at e1; cases e1
      | none => simpa using e2
    · rfl
  · obtain ⟨a, e⟩ := foundAt_pos h1
    rw [e]
    rw [boundOf_eq] at e ⊢
    split
    · rename_i h0
      rw [if_pos h0] at e
      rw [List.find?_append]
      cases hf : (env.find? fun f => isS x.name f.name) with
      | some b => rw [hf] at e; simpa using e
      | none => rw [hf] at e; cases e
    · rename_i h0
      rw [if_neg h0] at e
      cases e
theorem setOf_app (p : Prg) (env more : List Formal) (x : Ty) (h : ¬ (foundAt env x < 0 ∧ 0 ≤ foundAt more x)) : setOf p (env ++ more) x = setOf p env x := by
  unfold setOf baseOf
  rw [boundOf_app env more x h]

set_option maxRecDepth 20000 in
theorem mthWeakens_calls (p : Prg) (env more : List Formal) (x : Ty) (hp : okPr p) (he : env.length ≤ 9223372036854775807 ∧ ∀ f ∈ env, okFm f) (hm : more.length ≤ 9223372036854775807 ∧ ∀ f ∈ more, okFm f) (hx : okTy x) (g d : Nat) :
    ACalls E 4 [encPr p, slFm env, slFm more, encTy x] [] g d (dB true) [] := by
  refine acalls_of_awp (fn := Tryz.f4) (N := 68) Tryz.call4 Tryz.func4 rfl rfl (by simp) ?_
  simp only [go_sem]
  refine awp_seq_k (fun K1 hK1 => ?_)
  refine awp_plain 3 (by kernel_rfl) rfl (fun g0 hg0 => ?_)
  simp only [go_sem]
  refine hK1 _ ?_
  refine awp_seq_k (fun K2 hK2 => ?_)
  refine awp_seq_k (fun K3 hK3 => ?_)
  refine awp_ops (by kernel_rfl) rfl (fun g1 hg1 ops1 KR1 hops1 hKR1 => ?_)
  refine aops_eval 0 hops1 ?_
  simp only [go_sem]
  refine aops_pure hops1 rfl rfl rfl (awake12_calls _ _) (CoL.refl _) ?_
  refine aops_eval 3 hops1 ?_
  simp only [go_sem]
  cases hfa : decide (cntPr p ≤ 600) with
  | false =>
    refine aops_pure hops1 rfl rfl rfl (few06_calls p hp _ _) (CoL.refl _) ?_
    refine aops_last 17 hops1 ?_
    simp only [go_sem, hfa]
    refine hKR1 _ ?_
    refine hK3 _ ?_
    refine awp_t rfl ?_
    refine awp_seq_k (fun K4 hK4 => ?_)
    refine awp_ops (by kernel_rfl) rfl (fun g2 hg2 ops2 KR2 hops2 hKR2 => ?_)
    refine aops_eval 0 hops2 ?_
    simp only [go_sem]
    refine aops_pure hops2 rfl rfl rfl (awake12_calls _ _) (CoL.refl _) ?_
    refine aops_last 1 hops2 ?_
    simp only [go_sem]
    refine hKR2 _ ?_
    refine hK4 _ ?_
    refine awp_ret ?_
    refine ends_ev rfl ?_
    simp only [go_sem]
    exact Co.refl _
  | true =>
    refine aops_pure hops1 rfl rfl rfl (few06_calls p hp _ _) (CoL.refl _) ?_
    refine aops_eval 4 hops1 ?_
    simp only [go_sem, hfa]
    cases hfc : fewEnv env with
    | false =>
      refine aops_pure hops1 rfl rfl rfl (fewEnv_calls env he _ _) (CoL.refl _) ?_
      refine aops_last 12 hops1 ?_
      simp only [go_sem, hfc]
      refine hKR1 _ ?_
      refine hK3 _ ?_
      refine awp_t rfl ?_
      refine awp_seq_k (fun K5 hK5 => ?_)
      refine awp_ops (by kernel_rfl) rfl (fun g2 hg2 ops2 KR2 hops2 hKR2 => ?_)
      refine aops_eval 0 hops2 ?_
      simp only [go_sem]
      refine aops_pure hops2 rfl rfl rfl (awake12_calls _ _) (CoL.refl _) ?_
      refine aops_last 1 hops2 ?_
      simp only [go_sem]
      refine hKR2 _ ?_
      refine hK5 _ ?_
      refine awp_ret ?_
      refine ends_ev rfl ?_
      simp only [go_sem]
      exact Co.refl _
    | true =>
      refine aops_pure hops1 rfl rfl rfl (fewEnv_calls env he _ _) (CoL.refl _) ?_
      refine aops_eval 4 hops1 ?_
      simp only [go_sem, hfc]
      cases hfd : fewEnv more with
      | false =>
        refine aops_pure hops1 rfl rfl rfl (fewEnv_calls more hm _ _) (CoL.refl _) ?_
        refine aops_last 7 hops1 ?_
        simp only [go_sem, hfd]
        refine hKR1 _ ?_
        refine hK3 _ ?_
        refine awp_t rfl ?_
        refine awp_seq_k (fun K6 hK6 => ?_)
        refine awp_ops (by kernel_rfl) rfl (fun g2 hg2 ops2 KR2 hops2 hKR2 => ?_)
        refine aops_eval 0 hops2 ?_
        simp only [go_sem]
        refine aops_pure hops2 rfl rfl rfl (awake12_calls _ _) (CoL.refl _) ?_
        refine aops_last 1 hops2 ?_
        simp only [go_sem]
        refine hKR2 _ ?_
        refine hK6 _ ?_
        refine awp_ret ?_
        refine ends_ev rfl ?_
        simp only [go_sem]
        exact Co.refl _
      | true =>
        refine aops_pure hops1 rfl rfl rfl (fewEnv_calls more hm _ _) (CoL.refl _) ?_
        refine aops_eval 4 hops1 ?_
        simp only [go_sem, hfd]
        cases hfb : decide (count x 0 ≤ 200) with
        | false =>
          refine aops_pure hops1 rfl rfl rfl (few04_calls x hx _ _) (CoL.refl _) ?_
          refine aops_last 2 hops1 ?_
          simp only [go_sem, hfb]
          refine hKR1 _ ?_
          refine hK3 _ ?_
          refine awp_t rfl ?_
          refine awp_seq_k (fun K7 hK7 => ?_)
          refine awp_ops (by kernel_rfl) rfl (fun g2 hg2 ops2 KR2 hops2 hKR2 => ?_)
          refine aops_eval 0 hops2 ?_
          simp only [go_sem]
          refine aops_pure hops2 rfl rfl rfl (awake12_calls _ _) (CoL.refl _) ?_
          refine aops_last 1 hops2 ?_
          simp only [go_sem]
          refine hKR2 _ ?_
          refine hK7 _ ?_
          refine awp_ret ?_
          refine ends_ev rfl ?_
          simp only [go_sem]
          exact Co.refl _
        | true =>
          refine aops_pure hops1 rfl rfl rfl (few04_calls x hx _ _) (CoL.refl _) ?_
          refine aops_last 2 hops1 ?_
          simp only [go_sem, hfb]
          refine hKR1 _ ?_
          refine hK3 _ ?_
          refine awp_f rfl ?_
          refine awp_skip ?_
          refine hK2 _ ?_
          refine awp_seq_k (fun K8 hK8 => ?_)
          refine awp_seq_k (fun K9 hK9 => ?_)
          have sm := fewPr_sm hfa
          have sx := fewTy_sm hfb
          have ml := fewEnv_sm hfc
          have mm := fewEnv_sm hfd
          have l1 := ml.1
          have l2 := mm.1
          have hs := setOf_sm sm ml.2 sx
          have hs1 := hs.1
          have c6 := sigs12_calls (setOf p env x) (by omega) (fun s h => (hs.2 s h).ok)
          have c1 := set_calls p sm env (by omega) ml.2 x sx
          have c2 := refSet_calls p sm env (by omega) ml.2 x sx
          have f1 := find_calls env x (by omega) (smTy.ok _ sx)
          have f2 := find_calls more x (by omega) (smTy.ok _ sx)
          change ∀ g d, ACalls E 18 [slFm env, encTy x] [] g d (dI (foundAt env x)) [] at f1
          change ∀ g d, ACalls E 18 [slFm more, encTy x] [] g d (dI (foundAt more x)) [] at f2
          have hT : ∀ n rows, (encTb p).sub (frzD n rows) = encTb p := fun _ _ => rfl
          refine awp_ops (by kernel_rfl) rfl (fun g3 hg3 ops3 KR3 hops3 hKR3 => ?_)
          refine aops_eval 2 hops3 ?_
          simp only [go_sem]
          by_cases h1 : foundAt env x < 0
          · refine aops_pure hops3 rfl rfl rfl (f1 _ _) (CoL.refl _) ?_
            refine aops_eval 4 hops3 ?_
            simp only [go_sem, h1, decide_true]
            by_cases h2 : 0 ≤ foundAt more x
            · refine aops_pure hops3 rfl rfl rfl (f2 _ _) (CoL.refl _) ?_
              refine aops_last 2 hops3 ?_
              simp only [go_sem, h2, decide_true]
              refine hKR3 _ ?_
              refine hK9 _ ?_
              refine awp_t rfl ?_
              refine awp_seq_k (fun K10 hK10 => ?_)
              refine awp_plain 1 (by kernel_rfl) rfl (fun g4 hg4 => ?_)
              simp only [go_sem]
              refine hK10 _ ?_
              refine awp_ret ?_
              refine ends_ev rfl ?_
              simp only [go_sem]
              exact Co.refl _
            · refine aops_pure hops3 rfl rfl rfl (f2 _ _) (CoL.refl _) ?_
              refine aops_last 2 hops3 ?_
              simp only [go_sem, h2, decide_false]
              refine hKR3 _ ?_
              refine hK9 _ ?_
              refine awp_f rfl ?_
              refine awp_skip ?_
              refine hK8 _ ?_
              refine awp_seq_k (fun K11 hK11 => ?_)
              have e := setOf_app p env more x (by omega)
              have c3 := set_calls p sm (env ++ more) (by rw [List.length_append]; omega) (fun f hf => (List.mem_append.1 hf).elim (ml.2 f) (mm.2 f)) x sx
              rw [e] at c3
              refine awp_ops (by kernel_rfl) rfl (fun g5 hg5 ops5 KR5 hops5 hKR5 => ?_)
              refine aops_eval 1 hops5 ?_
              simp only [go_sem]
              refine aops_pure hops5 rfl rfl rfl (tableNew_calls p sm _ _) (CoL.refl _) ?_
              refine aops_last 1 hops5 ?_
              simp only [go_sem]
              refine hKR5 _ ?_
              refine hK11 _ ?_
              refine awp_seq_k (fun K12 hK12 => ?_)
              refine awp_anyT 7 [0, 0, 0, 6, 0, 30, 0, 127, 255] (by kernel_rfl) (by kernel_rfl) (by kernel_rfl) rfl (fun g6 hg6 ops6 KR6 hops6 hKR6 => ?_)
              refine qrunT_eval 3 hops6 rfl ?_
              simp only [go_sem]
              refine qrunT_app hops6 rfl rfl rfl rfl rfl es31 sz53 by53 ze53 rfl (by decide) rfl rfl ?_
              simp only [go_sem, okRowsFm]
              first | refine ⟨⟨by omega, by omega⟩, ?_⟩ | skip
              refine qrunT_eval 1 hops6 rfl ?_
              simp only [go_sem, List.nil_append]
              refine qrunT_app hops6 rfl rfl rfl rfl rfl es31 sz53 by53 ze53 rfl (by decide) rfl rfl ?_
              simp only [go_sem, okRowsFm]
              first | refine ⟨⟨by omega, by omega⟩, ?_⟩ | skip
              refine qrunT_last 1 hops6 rfl ?_
              simp only [go_sem]
              refine aops_eval 0 hops6 ?_
              simp only [go_sem]
              refine aops_frz ⟨g6, 51, 0⟩ ?_
              simp only [go_sem, hT]
              refine aops_pure hops6 rfl rfl rfl (c3 _ _) (.cons (.refl _) (.cons (.of_eq (by simp [go_sem, slFm])) (.cons (.refl _) .nil))) ?_
              refine aops_last 1 hops6 ?_
              simp only [go_sem]
              refine hKR6 _ ?_
              refine hK12 _ ?_
              refine awp_seq_k (fun K13 hK13 => ?_)
              refine awp_ops (by kernel_rfl) rfl (fun g7 hg7 ops7 KR7 hops7 hKR7 => ?_)
              refine aops_eval 4 hops7 ?_
              simp only [go_sem]
              refine aops_pure hops7 rfl rfl rfl (c1 _ _) (CoL.refl _) ?_
              refine aops_pure hops7 rfl rfl rfl (c6 _ _) (CoL.refl _) ?_
              refine aops_eval 5 hops7 ?_
              simp only [go_sem]
              refine aops_pure hops7 rfl rfl rfl (c2 _ _) (CoL.refl _) ?_
              refine aops_pure hops7 rfl rfl rfl (c6 _ _) (CoL.refl _) ?_
              refine aops_last 2 hops7 ?_
              simp only [go_sem]
              refine hKR7 _ ?_
              refine hK13 _ ?_
              refine awp_ret ?_
              refine ends_ev rfl ?_
              simp only [go_sem]
              exact Co.refl _
          · refine aops_pure hops3 rfl rfl rfl (f1 _ _) (CoL.refl _) ?_
            refine aops_last 7 hops3 ?_
            simp only [go_sem, h1, decide_false]
            refine hKR3 _ ?_
            refine hK9 _ ?_
            refine awp_f rfl ?_
            refine awp_skip ?_
            refine hK8 _ ?_
            refine awp_seq_k (fun K14 hK14 => ?_)
            have e := setOf_app p env more x (by omega)
            have c3 := set_calls p sm (env ++ more) (by rw [List.length_append]; omega) (fun f hf => (List.mem_append.1 hf).elim (ml.2 f) (mm.2 f)) x sx
            rw [e] at c3
            refine awp_ops (by kernel_rfl) rfl (fun g5 hg5 ops5 KR5 hops5 hKR5 => ?_)
            refine aops_eval 1 hops5 ?_
            simp only [go_sem]
            refine aops_pure hops5 rfl rfl rfl (tableNew_calls p sm _ _) (CoL.refl _) ?_
            refine aops_last 1 hops5 ?_
            simp only [go_sem]
            refine hKR5 _ ?_
            refine hK14 _ ?_
            refine awp_seq_k (fun K15 hK15 => ?_)
            refine awp_anyT 7 [0, 0, 0, 6, 0, 30, 0, 127, 255] (by kernel_rfl) (by kernel_rfl) (by kernel_rfl) rfl (fun g6 hg6 ops6 KR6 hops6 hKR6 => ?_)
            refine qrunT_eval 3 hops6 rfl ?_
            simp only [go_sem]
            refine qrunT_app hops6 rfl rfl rfl rfl rfl es31 sz53 by53 ze53 rfl (by decide) rfl rfl ?_
            simp only [go_sem, okRowsFm]
            first | refine ⟨⟨by omega, by omega⟩, ?_⟩ | skip
            refine qrunT_eval 1 hops6 rfl ?_
            simp only [go_sem, List.nil_append]
            refine qrunT_app hops6 rfl rfl rfl rfl rfl es31 sz53 by53 ze53 rfl (by decide) rfl rfl ?_
            simp only [go_sem, okRowsFm]
            first | refine ⟨⟨by omega, by omega⟩, ?_⟩ | skip
            refine qrunT_last 1 hops6 rfl ?_
            simp only [go_sem]
            refine aops_eval 0 hops6 ?_
            simp only [go_sem]
            refine aops_frz ⟨g6, 51, 0⟩ ?_
            simp only [go_sem, hT]
            refine aops_pure hops6 rfl rfl rfl (c3 _ _) (.cons (.refl _) (.cons (.of_eq (by simp [go_sem, slFm])) (.cons (.refl _) .nil))) ?_
            refine aops_last 1 hops6 ?_
            simp only [go_sem]
            refine hKR6 _ ?_
            refine hK15 _ ?_
            refine awp_seq_k (fun K16 hK16 => ?_)
            refine awp_ops (by kernel_rfl) rfl (fun g7 hg7 ops7 KR7 hops7 hKR7 => ?_)
            refine aops_eval 4 hops7 ?_
            simp only [go_sem]
            refine aops_pure hops7 rfl rfl rfl (c1 _ _) (CoL.refl _) ?_
            refine aops_pure hops7 rfl rfl rfl (c6 _ _) (CoL.refl _) ?_
            refine aops_eval 5 hops7 ?_
            simp only [go_sem]
            refine aops_pure hops7 rfl rfl rfl (c2 _ _) (CoL.refl _) ?_
            refine aops_pure hops7 rfl rfl rfl (c6 _ _) (CoL.refl _) ?_
            refine aops_last 2 hops7 ?_
            simp only [go_sem]
            refine hKR7 _ ?_
            refine hK16 _ ?_
            refine awp_ret ?_
            refine ends_ev rfl ?_
            simp only [go_sem]
            exact Co.refl _
end Go.Proofs.T

