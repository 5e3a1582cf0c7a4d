/- A part of the proof, under no conditions of its own: YG. -/
import Derived.Test.YtjhencaobpihnaaDoorC4
import Derived.Test.YtjhencaobpihnaaDoorP1
import Derived.Test.YtjhencaobpihnaaDoorB17
namespace Go.Proofs.T
open Go Go.Ab Go.RowKit

/-! ## The reference: method sets -/

end Go.Proofs.T


namespace Go.Proofs.T
open Go Go.Ab Go.RowKit

/-! ## The reference: missing names -/

end Go.Proofs.T


namespace Go.Proofs.T
open Go Go.Ab Go.RowKit

/-! ## The fixed results -/

theorem alike_self (s : Sig) : alike s s = true := (sameSi_iff _ _).2 rfl
theorem findSi_self {l : List Sig} (h : Names1 l) {k : Nat} (hk : k < l.length) : findSi l l[k].name = some k := by
  unfold findSi
  rw [List.findIdx?_eq_some_iff_getElem]
  refine ⟨hk, by simp, fun j hj => ?_⟩
  simp only [decide_eq_true_eq]
  intro e
  have := (List.getElem_inj (h₀ := by simp; omega) (h₁ := by simpa using hk) h).1 (show (l.map (·.name))[j]'(by simp; omega) = (l.map (·.name))[k]'(by simpa using hk) by simpa using e)
  omega
theorem covered_self {l : List Sig} (h : Names1 l) {s : Sig} (hs : s ∈ l) : covered l s = true := by
  obtain ⟨k, hk, rfl⟩ := List.mem_iff_getElem.1 hs
  simp [covered, getSi, findSi_self h hk, hk, alike_self]
theorem missL_self {l : List Sig} (h : Names1 l) : missL l l = [] := by
  unfold missL
  rw [List.filter_eq_nil_iff.2 fun s hs => by simp [covered_self h hs]]
  rfl
theorem missL_nil (l : List Sig) : missL [] l = l.map (·.name) := by
  unfold missL
  rw [List.filter_eq_self.2 fun s _ => by simp [covered, findSi]]
theorem Co.two {x : Bool} {r r' s s' : D} (h : CoL r.cells r'.cells) (h2 : CoL s.cells s'.cells) : Co (.sl x [r, s]) (.sl false [r', s']) :=
  Co.sl (fun e => by cases e) rfl (fun i a a' ha ha' => by
    match i, ha, ha' with
    | 0, ha, ha' => cases ha; cases ha'; exact h
    | 1, ha, ha' => cases ha; cases ha'; exact h2
    | i + 2, ha, ha' => cases ha)

def sI : Str := ⟨#[73]⟩
def sN : Str := ⟨#[110]⟩
def sM : Str := ⟨#[109]⟩
def sV : Str := ⟨#[118]⟩
def sigN : Sig := ⟨sN, [], [], .mk sT1 [] 0, 0⟩
def sigM : Sig := ⟨sM, [], [], .mk sT1 [] 0, 0⟩
def decI : Dec := ⟨2, sI, [], [], [sigN, sigM], ByteArray.empty, [], zeroSi, zeroEx, 0⟩
def prgI : Prg := ⟨[decI], zeroEx⟩
def tyI : Ty := .mk sI [] 0
def envI : List Formal := [⟨sA1, tyI, 0⟩]
def tyA : Ty := .mk sA1 [] 0
theorem sm_sig (n : Str) (h : n.size ≤ 100) : smSi ⟨n, [], [], .mk sT1 [] 0, 0⟩ := ⟨by show n.size ≤ _; omega, ⟨by simp, by simp⟩, ⟨by simp, by simp⟩, sm1 _ (by decide)⟩
theorem sm_prgI : smPr prgI := by
  have hz := smDe_zero
  refine ⟨⟨by simp [prgI], ?_⟩, hz.2.2.2.2.2.2.2⟩
  intro e h
  simp only [prgI, List.mem_singleton] at h
  subst h
  refine ⟨by decide, ⟨by simp [decI], by simp [decI]⟩, ⟨by simp [decI], by simp [decI]⟩, ⟨by simp [decI], ?_⟩, by decide, ⟨by simp [decI], by simp [decI]⟩, hz.2.2.2.2.2.2.1, hz.2.2.2.2.2.2.2⟩
  intro s hs
  simp only [decI, List.mem_cons, List.not_mem_nil, or_false] at hs
  rcases hs with rfl | rfl
  · exact sm_sig sN (by decide)
  · exact sm_sig sM (by decide)
def sN' : Sig := specSi decI [] sigN
def sM' : Sig := specSi decI [] sigM
theorem tyDeI : tyDe prgI sI = some decI := by simp [tyDe, tyFind, prgI, isDe, decI]
theorem instI : instOf prgI tyI 2 = true := by simp [instOf, kindOf, fmsOf, tyI, Ty.name, Ty.args, tyDeI, decI]
theorem specsI : specsTo decI [] 2 = [sN', sM'] := by
  have h : ¬ sN = sM := by decide
  simp [specsTo, decI, seen, sigN, sigM, h, sN', sM']
theorem spI : spOf prgI tyI = [sN', sM'] := by
  have h1 : tyI.name = sI := rfl
  have h2 : tyI.args = [] := rfl
  unfold spOf
  rw [instI, if_pos rfl, h1, h2, tyDeI]
  exact specsI
def setI : List Sig := [sM', sN']
theorem srtI : srt ltSi [sN', sM'] = setI := by
  have hn : Names1 [sN', sM'] := by
    show ([sN, sM] : List Str).Nodup
    decide
  refine (sigs_uniq hn (List.Perm.swap _ _ _) ?_).symm
  have : Go.Proofs.ltOf cfSi sN' sM' = false := by
    show ltS sN sM = false
    decide
  simp [this]
theorem setI1 : setOf prgI [] tyI = setI := by
  have h : boundOf [] tyI = none := by simp [boundOf]
  unfold setOf baseOf
  rw [h]
  simp only [Option.getD_none, instI, true_or, if_true, spI]
  exact srtI
theorem setI2 : setOf prgI envI tyA = setI := by
  have h : boundOf envI tyA = some tyI := by simp [boundOf, envI, tyA, Ty.args, Ty.name, isS]
  unfold setOf baseOf
  rw [h]
  simp only [Option.getD_some, instI, true_or, if_true, spI]
  exact srtI
theorem namesI : Names1 setI := by
  show ([sM, sN] : List Str).Nodup
  decide
theorem two2 : decide (((2:Nat):Int) = 2) = true := by decide
theorem two0 : (0:Int) < ((2:Nat):Int) := by decide
theorem at0 (r : D) (l : List D) : at? (r :: l) 0 = some r := rfl
theorem decide_self (x : Str) : decide (x = x) = true := by simp
theorem slI : slSi setI = .sl false [.agg (siC sM'), .agg (siC sN')] := rfl
theorem siM : siC sM' = [encS ⟨#[109]⟩, slS [], slFm [], encS sT1, slTy [], dI 0, dI 0] := rfl
theorem siN : siC sN' = [encS ⟨#[110]⟩, slS [], slFm [], encS sT1, slTy [], dI 0, dI 0] := rfl
theorem findI : findSi setI sN = some 1 := findSi_self namesI (k := 1) (by decide)
theorem getI : getSi setI sN = sN' := by
  unfold getSi
  rw [findI]
  rfl

set_option maxRecDepth 100000 in
theorem awake12_calls (g d : Nat) : ACalls E 4 [] [] g d (dB true) [] := by
  have sm := sm_prgI
  have smI : smTy tyI := sm1 _ (by decide)
  have smA : smTy tyA := sm1 _ (by decide)
  have smE : ∀ f ∈ envI, smFm f := by
    intro f hf
    simp only [envI, List.mem_singleton] at hf
    subst hf
    exact ⟨by decide, smI⟩
  have smS : ∀ s ∈ setI, smSi s := by rw [← setI1]; exact (setOf_sm sm (by simp) smI).2
  have c1 := set_calls prgI sm [] (by simp) (by simp) tyI smI
  rw [setI1] at c1
  have c2 := find12_calls 0 prgI sm envI (by decide) smE tyA smA sN
  rw [setI2, getI, findI] at c2
  have c3 := covers_calls setI setI (by decide) smS (by decide) smS
  rw [missL_self namesI] at c3
  have c4 := covers_calls [] setI (by simp) (by simp) (by decide) smS
  have c5 := missing_calls [] setI (by simp) (by simp) (by decide) smS
  rw [missL_nil] at c4 c5
  have e3 : decide (List.map (fun x => x.name) setI = []) = false := by decide
  have e5 : slS (List.map (fun x : Sig => x.name) setI) = .sl false [encS ⟨#[109]⟩, encS ⟨#[110]⟩] := rfl
  rw [e3] at c4
  rw [e5] at c5
  rw [slI] at c1 c3 c4 c5
  have c2' : ∀ (g d : Nat), ACalls E 12 [encTb prgI, slFm envI, encTy tyA, encS sN] [] g d (.tup [.agg (siC sN'), dB true]) [] := c2
  simp only [siM, siN] at c1 c2' c3 c4 c5
  refine acalls_of_awp (fn := Tryd.f4) (N := 67) Tryd.call4 Tryd.func4 rfl rfl (by simp) ?_
  simp only [go_sem]
  refine awp_seq_k (fun K1 hK1 => ?_)
  refine awp_plain 1 (by kernel_rfl) rfl (fun g0 hg0 => ?_)
  simp only [go_sem]
  refine hK1 _ ?_
  refine awp_seq_k (fun K2 hK2 => ?_)
  refine awp_plain 4 (by kernel_rfl) rfl (fun g1 hg1 => ?_)
  simp only [go_sem]
  refine hK2 _ ?_
  refine awp_seq_k (fun K3 hK3 => ?_)
  refine awp_plain 4 (by kernel_rfl) rfl (fun g2 hg2 => ?_)
  simp only [go_sem]
  refine hK3 _ ?_
  refine awp_seq_k (fun K4 hK4 => ?_)
  refine awp_plain 8 (by kernel_rfl) rfl (fun g3 hg3 => ?_)
  simp only [go_sem]
  refine hK4 _ ?_
  refine awp_seq_k (fun K5 hK5 => ?_)
  refine awp_ops (by kernel_rfl) rfl (fun g4 hg4 ops4 KR4 hops4 hKR4 => ?_)
  refine aops_eval 1 hops4 ?_
  simp only [go_sem]
  refine aops_pure hops4 rfl rfl rfl (tableNew_calls prgI sm _ _) (.cons (.agg (.cons (.one (.cons (.refl _) (.cons (.refl _) (.cons (.nil _) (.cons (.nil _) (.cons (Co.two (.cons (.refl _) (.cons (.nil _) (.cons (.nil _) (.cons (.refl _) (.cons (.nil _) (.cons (.refl _) (.cons (.refl _) .nil))))))) (.cons (.refl _) (.cons (.nil _) (.cons (.nil _) (.cons (.refl _) (.cons (.nil _) (.cons (.refl _) (.cons (.refl _) .nil)))))))) (.cons (.refl _) (.cons (.nil _) (.cons (.refl _) (.cons (.nil _) (.cons (.nil _) (.cons (.refl _) (.cons (.nil _) (.cons (.refl _) (.cons (.refl _) (.cons (.refl _) (.cons (.refl _) (.cons (.refl _) (.cons (.nil _) (.cons (.refl _) (.cons (.nil _) (.cons (.nil _) (.cons (.refl _) (.cons (.refl _) .nil)))))))))))))))))))))))) (.cons (.refl _) (.cons (.refl _) (.cons (.refl _) (.cons (.nil _) (.cons (.refl _) (.cons (.nil _) (.cons (.nil _) (.cons (.refl _) .nil)))))))))) .nil) ?_
  refine aops_eval 1 hops4 ?_
  simp only [go_sem]
  refine aops_pure hops4 rfl rfl rfl (c1 _ _) (.cons (.refl _) (.cons (.nil _) (.cons (.agg (.cons (.refl _) (.cons (.nil _) (.cons (.refl _) .nil)))) .nil))) ?_
  refine aops_last 1 hops4 ?_
  simp only [go_sem]
  refine hKR4 _ ?_
  refine hK5 _ ?_
  refine awp_seq_k (fun K6 hK6 => ?_)
  refine awp_plain 4 (by kernel_rfl) rfl (fun g5 hg5 => ?_)
  simp only [go_sem]
  refine hK6 _ ?_
  refine awp_seq_k (fun K7 hK7 => ?_)
  refine awp_ops (by kernel_rfl) rfl (fun g6 hg6 ops6 KR6 hops6 hKR6 => ?_)
  refine aops_eval 1 hops6 ?_
  simp only [go_sem]
  refine aops_pure hops6 rfl rfl rfl (tableNew_calls prgI sm _ _) (.cons (.agg (.cons (.one (.cons (.refl _) (.cons (.refl _) (.cons (.nil _) (.cons (.nil _) (.cons (Co.two (.cons (.refl _) (.cons (.nil _) (.cons (.nil _) (.cons (.refl _) (.cons (.nil _) (.cons (.refl _) (.cons (.refl _) .nil))))))) (.cons (.refl _) (.cons (.nil _) (.cons (.nil _) (.cons (.refl _) (.cons (.nil _) (.cons (.refl _) (.cons (.refl _) .nil)))))))) (.cons (.refl _) (.cons (.nil _) (.cons (.refl _) (.cons (.nil _) (.cons (.nil _) (.cons (.refl _) (.cons (.nil _) (.cons (.refl _) (.cons (.refl _) (.cons (.refl _) (.cons (.refl _) (.cons (.refl _) (.cons (.nil _) (.cons (.refl _) (.cons (.nil _) (.cons (.nil _) (.cons (.refl _) (.cons (.refl _) .nil)))))))))))))))))))))))) (.cons (.refl _) (.cons (.refl _) (.cons (.refl _) (.cons (.nil _) (.cons (.refl _) (.cons (.nil _) (.cons (.nil _) (.cons (.refl _) .nil)))))))))) .nil) ?_
  refine aops_eval 2 hops6 ?_
  simp only [go_sem]
  refine aops_pure hops6 rfl rfl rfl (c2' _ _) (.cons (.refl _) (.cons (.one (.cons (.refl _) (.cons (.refl _) (.cons (.nil _) (.cons (.refl _) (.cons (.refl _) .nil)))))) (.cons (.agg (.cons (.refl _) (.cons (.nil _) (.cons (.refl _) .nil)))) (.cons (.refl _) .nil)))) ?_
  refine aops_last 6 hops6 ?_
  simp only [go_sem]
  refine hKR6 _ ?_
  refine hK7 _ ?_
  refine awp_seq_k (fun K8 hK8 => ?_)
  refine awp_ops (by kernel_rfl) rfl (fun g7 hg7 ops7 KR7 hops7 hKR7 => ?_)
  refine aops_eval 21 hops7 ?_
  simp only [go_sem, two2, decide_true, at0]
  refine aops_pure hops7 rfl rfl rfl (c3 _ _) (.cons (.refl _) (.cons (.refl _) .nil)) ?_
  refine aops_eval 3 hops7 ?_
  simp only [go_sem, decide_true]
  refine aops_pure hops7 rfl rfl rfl (c4 _ _) (.cons (.nil _) (.cons (.refl _) .nil)) ?_
  refine aops_eval 4 hops7 ?_
  simp only [go_sem]
  refine aops_pure hops7 rfl rfl rfl (c5 _ _) (.cons (.nil _) (.cons (.refl _) .nil)) ?_
  refine aops_last 4 hops7 ?_
  simp only [go_sem]
  refine hKR7 _ ?_
  refine hK8 _ ?_
  refine awp_ret ?_
  refine ends_ev rfl ?_
  simp only [go_sem]
  exact Co.refl _

end Go.Proofs.T


namespace Go.Proofs.T
open Go Go.Ab Go.RowKit

theorem fewPr_sm {p : Prg} (h : decide (cntPr p ≤ 600) = true) : smPr p := (cntPr_sm p (of_decide_eq_true h)).1
theorem fewTy_sm {x : Ty} (h : decide (count x 0 ≤ 200) = true) : smTy x := count_sm x 0 (by have := of_decide_eq_true h; omega)

end Go.Proofs.T


namespace Go.Proofs.T
open Go Go.Ab Go.RowKit

/-! ## The given set is in order, and lacks nothing of itself -/

theorem lt_of_ord {l : List Sig} (hn : Names1 l) (ho : Ord ltSi l) {k : Nat} (hk : k + 1 < l.length) : Op.bytesLess l[k].name.toList l[k + 1].name.toList = true := by
  rw [cmpS_less]
  have h1 : ltSi l[k + 1] l[k] = false := List.pairwise_iff_getElem.1 ho k (k + 1) (by omega) hk (by omega)
  cases h : ltSi l[k] l[k + 1] with
  | true =>
    have h2 : cmpS l[k].name l[k + 1].name < 0 := of_decide_eq_true h
    refine decide_eq_true ?_
    have h3 : cmpS l[k].name l[k + 1].name = -1 ∨ cmpS l[k].name l[k + 1].name = 0 ∨ cmpS l[k].name l[k + 1].name = 1 := cmpL_range _ _
    omega
  | false =>
    have e := ltS_same h h1
    have := (List.getElem_inj (h₀ := by simp; omega) (h₁ := by simpa using hk) hn).1 (show (l.map (·.name))[k]'(by simp; omega) = (l.map (·.name))[k + 1]'(by simpa using hk) by simpa using e)
    omega

set_option maxRecDepth 20000 in
theorem mthSets_calls (p : Prg) (env : List Formal) (x : Ty) (hp : okPr p) (he : env.length ≤ 9223372036854775807 ∧ ∀ f ∈ env, okFm f) (hx : okTy x) (g d : Nat) :
    ACalls E 3 [encPr p, slFm env, encTy x] [] g d (dB true) [] := by
  refine acalls_of_awp (fn := Tryd.f3) (N := 59) Tryd.call3 Tryd.func3 rfl rfl (by simp) ?_
  simp only [go_sem]
  refine awp_seq_k (fun K1 hK1 => ?_)
  refine awp_plain 3 (by kernel_rfl) rfl (fun g0 hg0 => ?_)
  simp only [go_sem]
  refine hK1 _ ?_
  refine awp_seq_k (fun K2 hK2 => ?_)
  refine awp_seq_k (fun K3 hK3 => ?_)
  refine awp_ops (by kernel_rfl) rfl (fun g1 hg1 ops1 KR1 hops1 hKR1 => ?_)
  refine aops_eval 0 hops1 ?_
  simp only [go_sem]
  refine aops_pure hops1 rfl rfl rfl (awake12_calls _ _) (CoL.refl _) ?_
  refine aops_eval 3 hops1 ?_
  simp only [go_sem]
  cases hfa : decide (cntPr p ≤ 600) with
  | false =>
    refine aops_pure hops1 rfl rfl rfl (few06_calls p hp _ _) (CoL.refl _) ?_
    refine aops_last 12 hops1 ?_
    simp only [go_sem, hfa]
    refine hKR1 _ ?_
    refine hK3 _ ?_
    refine awp_t rfl ?_
    refine awp_seq_k (fun K4 hK4 => ?_)
    refine awp_ops (by kernel_rfl) rfl (fun g2 hg2 ops2 KR2 hops2 hKR2 => ?_)
    refine aops_eval 0 hops2 ?_
    simp only [go_sem]
    refine aops_pure hops2 rfl rfl rfl (awake12_calls _ _) (CoL.refl _) ?_
    refine aops_last 1 hops2 ?_
    simp only [go_sem]
    refine hKR2 _ ?_
    refine hK4 _ ?_
    refine awp_ret ?_
    refine ends_ev rfl ?_
    simp only [go_sem]
    exact Co.refl _
  | true =>
    refine aops_pure hops1 rfl rfl rfl (few06_calls p hp _ _) (CoL.refl _) ?_
    refine aops_eval 4 hops1 ?_
    simp only [go_sem, hfa]
    cases hfc : fewEnv env with
    | false =>
      refine aops_pure hops1 rfl rfl rfl (fewEnv_calls env he _ _) (CoL.refl _) ?_
      refine aops_last 7 hops1 ?_
      simp only [go_sem, hfc]
      refine hKR1 _ ?_
      refine hK3 _ ?_
      refine awp_t rfl ?_
      refine awp_seq_k (fun K5 hK5 => ?_)
      refine awp_ops (by kernel_rfl) rfl (fun g2 hg2 ops2 KR2 hops2 hKR2 => ?_)
      refine aops_eval 0 hops2 ?_
      simp only [go_sem]
      refine aops_pure hops2 rfl rfl rfl (awake12_calls _ _) (CoL.refl _) ?_
      refine aops_last 1 hops2 ?_
      simp only [go_sem]
      refine hKR2 _ ?_
      refine hK5 _ ?_
      refine awp_ret ?_
      refine ends_ev rfl ?_
      simp only [go_sem]
      exact Co.refl _
    | true =>
      refine aops_pure hops1 rfl rfl rfl (fewEnv_calls env he _ _) (CoL.refl _) ?_
      refine aops_eval 4 hops1 ?_
      simp only [go_sem, hfc]
      cases hfb : decide (count x 0 ≤ 200) with
      | false =>
        refine aops_pure hops1 rfl rfl rfl (few04_calls x hx _ _) (CoL.refl _) ?_
        refine aops_last 2 hops1 ?_
        simp only [go_sem, hfb]
        refine hKR1 _ ?_
        refine hK3 _ ?_
        refine awp_t rfl ?_
        refine awp_seq_k (fun K6 hK6 => ?_)
        refine awp_ops (by kernel_rfl) rfl (fun g2 hg2 ops2 KR2 hops2 hKR2 => ?_)
        refine aops_eval 0 hops2 ?_
        simp only [go_sem]
        refine aops_pure hops2 rfl rfl rfl (awake12_calls _ _) (CoL.refl _) ?_
        refine aops_last 1 hops2 ?_
        simp only [go_sem]
        refine hKR2 _ ?_
        refine hK6 _ ?_
        refine awp_ret ?_
        refine ends_ev rfl ?_
        simp only [go_sem]
        exact Co.refl _
      | true =>
        refine aops_pure hops1 rfl rfl rfl (few04_calls x hx _ _) (CoL.refl _) ?_
        refine aops_last 2 hops1 ?_
        simp only [go_sem, hfb]
        refine hKR1 _ ?_
        refine hK3 _ ?_
        refine awp_f rfl ?_
        refine awp_skip ?_
        refine hK2 _ ?_
        refine awp_seq_k (fun K7 hK7 => ?_)
        have sm := fewPr_sm hfa
        have sx := fewTy_sm hfb
        have ml := fewEnv_sm hfc
        have hs := setOf_sm sm ml.2 sx
        have hs1 := hs.1
        have c1 := set_calls p sm env (by have := ml.1; omega) ml.2 x sx
        have hn : Names1 (setOf p env x) := by
          have := (srt_perm ltSi (baseOf p env x)).map (·.name)
          exact this.nodup_iff.2 (baseOf_names p env x)
        have ho : Ord ltSi (setOf p env x) := srt_ord swoSi _
        generalize setOf p env x = S at hs hs1 c1 hn ho
        have c4 := covers_calls S S hs1 hs.2 hs1 hs.2
        have c5 := missing_calls S [] hs1 hs.2 (by simp) (by simp)
        rw [missL_self hn] at c4
        refine awp_any 5 (by kernel_rfl) (by kernel_rfl) rfl (fun g3 hg3 ops3 KR3 hops3 hKR3 => ?_)
        refine qrun_eval 1 hops3 ?_
        simp only [go_sem]
        refine qrun_pure hops3 rfl rfl rfl (tableNew_calls p sm _ _) (CoL.refl _) rfl ?_
        refine qrun_eval 2 hops3 ?_
        simp only [go_sem]
        refine qrun_pure hops3 rfl rfl rfl (c1 _ _) (CoL.refl _) rfl ?_
        refine qrun_last 0 hops3 ?_
        simp only [go_sem]
        refine aops_last 1 hops3 ?_
        simp only [go_sem]
        refine hKR3 _ ?_
        refine hK7 _ ?_
        refine awp_seq_k (fun K8 hK8 => ?_)
        refine awp_seq_k (fun K9 hK9 => ?_)
        refine awp_plain 1 (by kernel_rfl) rfl (fun g4 hg4 => ?_)
        simp only [go_sem]
        refine hK9 _ ?_
        refine awp_block ?_
        refine awp_loop (fun m s => ∃ q, (q = 0 ∨ q + 1 ≤ S.length) ∧ m = S.length - (q + 1) ∧ Le { env := [(7, slSi S), (8, dN (q + 1))], σ := [] } s) (S.length - 1) ?_ ?_
        · refine ⟨0, .inl rfl, by omega, le_of ?_⟩
          simp only [go_sem]
          trivial
        · rintro m s ⟨q, hq, rfl, hle⟩
          refine awp_keep hle ?_
          clear hle
          by_cases hlt : q + 1 < S.length
          · have hq0 : q < S.length := by omega
            have hltI : ((q + 1 : Nat) : Int) < (S.length : Int) := by omega
            have hwr : IntKind.i64.wrap (((q + 1 : Nat) : Int) - 1) = (q : Int) := by rw [wrapN _ (by omega) (by omega)]; omega
            have hl := lt_of_ord hn ho hlt
            refine awp_seq_k (fun K10 hK10 => ?_)
            refine awp_seq_k (fun K11 hK11 => ?_)
            refine awp_plain 4 (by kernel_rfl) rfl (fun g5 hg5 => ?_)
            simp only [go_sem, hltI, decide_true]
            refine hK11 _ ?_
            refine awp_t rfl ?_
            refine awp_skip ?_
            refine hK10 _ ?_
            refine awp_seq_k (fun K12 hK12 => ?_)
            refine awp_block ?_
            refine awp_seq_k (fun K13 hK13 => ?_)
            refine awp_anyq (by kernel_rfl) rfl (fun g7 hg7 ops7 KR7 hops7 hKR7 => ?_)
            refine qrun_last 12 hops7 ?_
            simp only [go_sem, getM hq0, getM hlt, hl, Bool.not_true, siC, encSi, hwr]
            try simp (disch := omega) only [wrapN, wrapB, Int.tdiv_eq_ediv_of_nonneg, Int.tmod_eq_emod_of_nonneg]
            refine hKR7 _ ?_
            refine hK13 _ ?_
            refine awp_f rfl ?_
            refine awp_skip ?_
            refine hK12 _ ?_
            refine awp_plain 3 (by kernel_rfl) rfl (fun g6 hg6 => ?_)
            simp only [go_sem]
            try simp (disch := omega) only [wrapN]
            refine ⟨_, ?_, q + 1, .inr hlt, rfl, le_of ?_⟩
            · omega
            simp only [go_sem]
            trivial
          · have hltI : ¬ ((q + 1 : Nat) : Int) < (S.length : Int) := by omega
            refine awp_seq_k (fun K14 hK14 => ?_)
            refine awp_seq_k (fun K15 hK15 => ?_)
            refine awp_plain 4 (by kernel_rfl) rfl (fun g5 hg5 => ?_)
            simp only [go_sem, hltI, decide_false]
            refine hK15 _ ?_
            refine awp_f rfl ?_
            refine awp_exit ?_
            refine hK8 _ ?_
            refine awp_seq_k (fun K16 hK16 => ?_)
            refine awp_ops (by kernel_rfl) rfl (fun g9 hg9 ops9 KR9 hops9 hKR9 => ?_)
            refine aops_eval 2 hops9 ?_
            simp only [go_sem]
            refine aops_pure hops9 rfl rfl rfl (c4 _ _) (CoL.refl _) ?_
            refine aops_eval 2 hops9 ?_
            simp only [go_sem]
            refine aops_pure hops9 rfl rfl rfl (c5 _ _) (.cons (.refl _) (.cons (.nil _) .nil)) ?_
            refine aops_last 4 hops9 ?_
            simp only [go_sem]
            refine hKR9 _ ?_
            refine hK16 _ ?_
            refine awp_ret ?_
            refine ends_ev rfl ?_
            simp only [go_sem]
            exact Co.refl _
end Go.Proofs.T

