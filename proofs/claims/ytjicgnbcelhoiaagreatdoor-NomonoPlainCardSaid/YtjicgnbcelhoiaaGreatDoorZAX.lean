/- A part of the proof, under no conditions of its own: ZAX. -/
import Derived.Test.YtjicgnbcelhoiaaGreatDoorZAW
import Derived.Test.YtjicgnbcelhoiaaGreatDoorZAQ
namespace Go.Proofs.T
open Go Go.Ab Go.RowKit Go.Extern.Stop Go.Stop Go.Extern
abbrev fD (c a : Int) : D := .iface 97 (.agg [dI c, dI a])
set_option maxRecDepth 100000 in
theorem as_CF (c a : Int) (p q : Nat) (g d : Nat) : ACalls E 73 [fD c a, .iface 95 (.ptr ⟨q, 4, 0⟩ 0), valD 95 ⟨p, 14, 0⟩ 150, rtD 56]
  [(⟨p, 14, 0⟩, .box 95 [.ptr ⟨q, 4, 0⟩ 0]), (⟨q, 4, 0⟩, .box 56 [dI 0])] g d (dB true) [(⟨p, 14, 0⟩, .box 95 [.ptr ⟨q, 4, 0⟩ 0]), (⟨q, 4, 0⟩, .box 56 [dI c])] := by
 refine acalls_of_awp (fn := Tryz.f73) (N := 62) Tryz.call73 Tryz.func73 rfl rfl (by simp) ?_
 simp only [go_sem]
 refine awp_seq_k (fun K1 hK1 => ?_)
 refine awp_plain 2 (by kernel_rfl) rfl (fun g0 hg0 => ?_)
 simp only [go_sem, hd]
 refine hK1 _ ?_
 refine awp_block ?_
 refine awp_loop (fun m s => ∃ X, ((X = fD c a ∧ m = 1) ∨ (X = .iface 56 (dI c) ∧ m = 0)) ∧ Le { env := [(0, X), (1, .iface 95 (.ptr ⟨q, 4, 0⟩ 0)), (3, rtD 56), (6, .ptr ⟨g0, 6, 0⟩ 0)], σ := [(⟨g0, 6, 0⟩, .box 126 (valD 95 ⟨p, 14, 0⟩ 150).cells), (⟨p, 14, 0⟩, .box 95 [.ptr ⟨q, 4, 0⟩ 0]), (⟨q, 4, 0⟩, .box 56 [dI 0])] } s) 1 ?_ ?_
 ·refine ⟨_, .inl ⟨rfl, rfl⟩, le_of ?_⟩
  simp only [go_sem, hd]
  try trivial
 ·rintro m s ⟨X, hX, hle⟩
  refine awp_keep hle ?_
  clear hle
  refine awp_block ?_
  refine awp_seq_k (fun K2 hK2 => ?_)
  refine awp_seq_k (fun K3 hK3 => ?_)
  rcases hX with ⟨rfl, rfl⟩ | ⟨rfl, rfl⟩
  ·refine awp_ops (by kernel_rfl) rfl (fun g1 hg1 ops1 KR1 hops1 hKR1 => ?_)
   refine aops_eval 1 hops1 ?_
   simp only [go_sem, hd]
   refine aops_entry0 hops1 rfl rfl (leads_fn rfl rfl rfl) (typeOf_calls typeOf97 _ _ _) (CoL.refl _) ?_
   refine aops_eval 1 hops1 ?_
   simp only [go_sem]
   refine aops_entry0 hops1 rfl rfl (leads_method rfl rfl rfl (recvAsg _)) (asg_calls asg97_56 _ _) (CoL.refl _) ?_
   refine aops_last 0 hops1 ?_
   simp only [go_sem]
   refine hKR1 _ ?_
   refine hK3 _ ?_
   refine awp_f rfl ?_
   refine awp_skip ?_
   refine hK2 _ ?_
   refine awp_seq_k (fun K4 hK4 => ?_)
   refine awp_seq_k (fun K5 hK5 => ?_)
   refine awp_ops (by kernel_rfl) rfl (fun g4 hg4 ops4 KR4 hops4 hKR4 => ?_)
   refine aops_eval 1 hops4 ?_
   simp only [go_sem]
   refine aops_lacks hops4 rfl rfl rfl rfl (noAs97) ?_
   refine aops_last 5 hops4 ?_
   simp only [go_sem]
   refine hKR4 _ ?_
   refine hK5 _ ?_
   refine awp_seq_k (fun K6 hK6 => ?_)
   refine awp_plain 6 (by kernel_rfl) rfl (fun g5 hg5 => ?_)
   simp only [go_sem]
   refine hK6 _ ?_
   refine awp_f rfl ?_
   refine awp_skip ?_
   refine hK4 _ ?_
   refine awp_seq_k (fun K7 hK7 => ?_)
   refine awp_plain 1 (by kernel_rfl) rfl (fun g7 hg7 => ?_)
   simp only [go_sem]
   refine hK7 _ ?_
   refine awp_block ?_
   refine awp_seq_k (fun K8 hK8 => ?_)
   refine awp_ops (by kernel_rfl) rfl (fun g10 hg10 ops10 KR10 hops10 hKR10 => ?_)
   refine aops_eval 0 hops10 ?_
   simp only [go_sem]
   refine aops_has hops10 rfl rfl rfl rfl (hasUn97) ?_
   refine aops_last 2 hops10 ?_
   simp only [go_sem]
   refine hKR10 _ ?_
   refine hK8 _ ?_
   refine awp_t rfl ?_
   refine awp_seq_k (fun K9 hK9 => ?_)
   refine awp_plain 1 (by kernel_rfl) rfl (fun g11 hg11 => ?_)
   simp only [go_sem]
   refine hK9 _ ?_
   refine awp_seq_k (fun K10 hK10 => ?_)
   refine awp_ops (by kernel_rfl) rfl (fun g12 hg12 ops12 KR12 hops12 hKR12 => ?_)
   refine aops_eval 1 hops12 ?_
   simp only [go_sem]
   refine aops_inv0 hops12 rfl rfl (leads_method rfl rfl rfl (Recv.same u97 _)) (unwrapF_calls c a _ _) (CoL.refl _) ?_
   refine aops_last 1 hops12 ?_
   simp only [go_sem]
   refine hKR12 _ ?_
   refine hK10 _ ?_
   refine awp_seq_k (fun K11 hK11 => ?_)
   refine awp_plain 2 (by kernel_rfl) rfl (fun g13 hg13 => ?_)
   simp only [go_sem]
   refine hK11 _ ?_
   refine awp_f rfl ?_
   refine awp_skip ?_
   refine ⟨_, ?_, _, .inr ⟨rfl, rfl⟩, le_of ?_⟩
   ·simp
   simp only [go_sem, hd]
   try trivial
  ·refine awp_ops (by kernel_rfl) rfl (fun g1 hg1 ops1 KR1 hops1 hKR1 => ?_)
   refine aops_eval 1 hops1 ?_
   simp only [go_sem, hd]
   refine aops_entry0 hops1 rfl rfl (leads_fn rfl rfl rfl) (typeOf_calls typeOf56 _ _ _) (CoL.refl _) ?_
   refine aops_eval 1 hops1 ?_
   simp only [go_sem]
   refine aops_entry0 hops1 rfl rfl (leads_method rfl rfl rfl (recvAsg _)) (asg_calls asg56_56 _ _) (CoL.refl _) ?_
   refine aops_last 0 hops1 ?_
   simp only [go_sem]
   refine hKR1 _ ?_
   refine hK3 _ ?_
   refine awp_t rfl ?_
   refine awp_seq_k (fun K12 hK12 => ?_)
   refine awp_ops (by kernel_rfl) rfl (fun g2 hg2 ops2 KR2 hops2 hKR2 => ?_)
   refine aops_eval 1 hops2 ?_
   simp only [go_sem]
   refine aops_entry hops2 rfl rfl (leads_fn rfl rfl rfl) (vElem95 ⟨p, 14, 0⟩ ⟨q, 4, 0⟩ _ _) (CoL.refl _) (by simp [go_sem]) ?_
   refine aops_eval 1 hops2 ?_
   simp only [go_sem]
   refine aops_entry0 hops2 rfl rfl (leads_fn rfl rfl rfl) (valOfC _ _ _) (CoL.refl _) ?_
   refine aops_entry hops2 rfl rfl (leads_fn rfl rfl rfl) (vSetC (m := ⟨q, 4, 0⟩) (k := ⟨g2, 23, 0⟩) (by simp) (dI 0) c _ _) (CoL.refl _) (by simp [go_sem]) ?_
   refine aops_last 0 hops2 ?_
   simp only [go_sem]
   refine hKR2 _ ?_
   refine hK12 _ ?_
   refine awp_seq_k (fun K13 hK13 => ?_)
   refine awp_plain 1 (by kernel_rfl) rfl (fun g3 hg3 => ?_)
   simp only [go_sem]
   refine hK13 _ ?_
   refine awp_ret ?_
   refine ends_keep rfl (by simp [go_sem]) ?_
   simp only [go_sem]
   exact Co.refl _
set_option maxRecDepth 100000 in
theorem As_CF (c a : Int) (q : Nat) (g d : Nat) : ACalls E 48 [fD c a, .iface 95 (.ptr ⟨q, 4, 0⟩ 0)] [(⟨q, 4, 0⟩, .box 56 [dI 0])] g d (dB true) [(⟨q, 4, 0⟩, .box 56 [dI c])] := by
 refine acalls_of_awp (fn := Tryz.f48) (N := 42) Tryz.call48 Tryz.func48 rfl rfl (by simp) ?_
 simp only [go_sem]
 refine awp_seq_k (fun K1 hK1 => ?_)
 refine awp_plain 1 (by kernel_rfl) rfl (fun g0 hg0 => ?_)
 simp only [go_sem]
 refine hK1 _ ?_
 refine awp_seq_k (fun K2 hK2 => ?_)
 refine awp_seq_k (fun K3 hK3 => ?_)
 refine awp_plain 2 (by kernel_rfl) rfl (fun g1 hg1 => ?_)
 simp only [go_sem]
 refine hK3 _ ?_
 refine awp_f rfl ?_
 refine awp_skip ?_
 refine hK2 _ ?_
 refine awp_seq_k (fun K4 hK4 => ?_)
 refine awp_seq_k (fun K5 hK5 => ?_)
 refine awp_plain 2 (by kernel_rfl) rfl (fun g3 hg3 => ?_)
 simp only [go_sem]
 refine hK5 _ ?_
 refine awp_f rfl ?_
 refine awp_skip ?_
 refine hK4 _ ?_
 refine awp_seq_k (fun K6 hK6 => ?_)
 refine awp_ops (by kernel_rfl) rfl (fun g5 hg5 ops5 KR5 hops5 hKR5 => ?_)
 refine aops_eval 1 hops5 ?_
 simp only [go_sem]
 refine aops_entry0 hops5 rfl rfl (leads_fn rfl rfl rfl) (valOfP95 ⟨q, 4, 0⟩ _ _) (CoL.refl _) ?_
 refine aops_last 2 hops5 ?_
 simp only [go_sem, hd]
 refine hKR5 _ ?_
 refine hK6 _ ?_
 refine awp_seq_k (fun K7 hK7 => ?_)
 refine awp_ops (by kernel_rfl) rfl (fun g6 hg6 ops6 KR6 hops6 hKR6 => ?_)
 refine aops_eval 1 hops6 ?_
 simp only [go_sem]
 refine aops_entry0 hops6 rfl rfl (leads_fn rfl rfl rfl) (vType95 ⟨g5, 14, 0⟩ _ _) (CoL.refl _) ?_
 refine aops_last 1 hops6 ?_
 simp only [go_sem, hd, rtD]
 refine hKR6 _ ?_
 refine hK7 _ ?_
 refine awp_seq_k (fun K8 hK8 => ?_)
 refine awp_seq_k (fun K9 hK9 => ?_)
 refine awp_ops (by kernel_rfl) rfl (fun g7 hg7 ops7 KR7 hops7 hKR7 => ?_)
 refine aops_eval 1 hops7 ?_
 simp only [go_sem]
 refine aops_entry0 hops7 rfl rfl (leads_method rfl rfl rfl (recvKind _)) (kind_calls kind95 _ _) (CoL.refl _) ?_
 refine aops_eval 3 hops7 ?_
 simp only [go_sem]
 refine aops_entry hops7 rfl rfl (leads_fn rfl rfl rfl) (vIsNil95 ⟨g5, 14, 0⟩ ⟨q, 4, 0⟩ _ _) (CoL.refl _) (by simp [go_sem]) ?_
 refine aops_last 1 hops7 ?_
 simp only [go_sem]
 refine hKR7 _ ?_
 refine hK9 _ ?_
 refine awp_f rfl ?_
 refine awp_skip ?_
 refine hK8 _ ?_
 refine awp_seq_k (fun K10 hK10 => ?_)
 refine awp_ops (by kernel_rfl) rfl (fun g9 hg9 ops9 KR9 hops9 hKR9 => ?_)
 refine aops_eval 1 hops9 ?_
 simp only [go_sem]
 refine aops_entry0 hops9 rfl rfl (leads_method rfl rfl rfl (recvElem _)) (elem_calls elem95 _ _) (CoL.refl _) ?_
 refine aops_last 1 hops9 ?_
 simp only [go_sem, hd, rtD]
 refine hKR9 _ ?_
 refine hK10 _ ?_
 refine awp_seq_k (fun K11 hK11 => ?_)
 refine awp_seq_k (fun K12 hK12 => ?_)
 refine awp_ops (by kernel_rfl) rfl (fun g10 hg10 ops10 KR10 hops10 hKR10 => ?_)
 refine aops_eval 1 hops10 ?_
 simp only [go_sem]
 refine aops_entry0 hops10 rfl rfl (leads_method rfl rfl rfl (recvKind _)) (kind_calls kind56 _ _) (CoL.refl _) ?_
 refine aops_eval 4 hops10 ?_
 simp only [go_sem, errT]
 refine aops_entry0 hops10 rfl rfl (leads_method rfl rfl rfl (recvImpl _)) (impl_calls impl56 _ _) (CoL.refl _) ?_
 refine aops_last 2 hops10 ?_
 simp only [go_sem]
 refine hKR10 _ ?_
 refine hK12 _ ?_
 refine awp_f rfl ?_
 refine awp_skip ?_
 refine hK11 _ ?_
 refine awp_seq_k (fun K13 hK13 => ?_)
 refine awp_ops (by kernel_rfl) rfl (fun g12 hg12 ops12 KR12 hops12 hKR12 => ?_)
 refine aops_eval 4 hops12 ?_
 simp only [go_sem]
 refine aops_call hops12 rfl rfl rfl (as_CF c a g5 q _ _) (CoL.refl _) (by simp [go_sem]) ?_
 refine aops_last 1 hops12 ?_
 simp only [go_sem]
 refine hKR12 _ ?_
 refine hK13 _ ?_
 refine awp_ret ?_
 refine ends_keep rfl (by simp [go_sem]) ?_
 simp only [go_sem]
 exact Co.refl _
theorem codeF_calls (c a : Int) (g d : Nat) : ACalls E 23 [fD c a] [] g d (.tup [dI c, dB true]) [] := by
 refine acalls_of_awp (fn := Tryz.f23) (N := 11) Tryz.call23 Tryz.func23 rfl rfl (by simp) ?_
 simp only [go_sem]
 refine awp_seq_k (fun K1 hK1 => ?_)
 refine awp_plain 2 (by kernel_rfl) rfl (fun g0 hg0 => ?_)
 simp only [go_sem]
 refine hK1 _ ?_
 refine awp_seq_k (fun K2 hK2 => ?_)
 refine awp_plain 1 (by kernel_rfl) rfl (fun g1 hg1 => ?_)
 simp only [go_sem]
 refine hK2 _ ?_
 refine awp_seq_k (fun K3 hK3 => ?_)
 refine awp_ops (by kernel_rfl) rfl (fun g2 hg2 ops2 KR2 hops2 hKR2 => ?_)
 refine aops_eval 2 hops2 ?_
 simp only [go_sem]
 refine aops_call hops2 rfl rfl rfl (As_CF c a g1 _ _) (CoL.refl _) (by simp [go_sem]) ?_
 refine aops_last 1 hops2 ?_
 simp only [go_sem]
 refine hKR2 _ ?_
 refine hK3 _ ?_
 refine awp_seq_k (fun K4 hK4 => ?_)
 refine awp_plain 4 (by kernel_rfl) rfl (fun g3 hg3 => ?_)
 simp only [go_sem]
 refine hK4 _ ?_
 refine awp_ret ?_
 refine ends_ev rfl ?_
 simp only [go_sem]
 exact Co.refl _
end Go.Proofs.T
namespace Go.Ab
open Go Go.RowKit
def XStep (E : Ctx) (ops : List Oper) (M : List Nat) (g : Nat) (σ0 : Sto) (c : Nat) (n0 : Nm) (ob0 ob1 : Ob) (i : Nat) (o : Oper) (env : List (Nat × D)) (v : D) (nw : Sto) : Prop :=
 (i ≠ c ∧ ∃ b : Bool, (b = true → bit M c i = true) ∧ QStep E ops g (if b = true then (n0, ob0) :: σ0 else σ0) o env v nw) ∨ (i = c ∧ nw = [] ∧ o.guard = none ∧ TOp E g o (ev E env) (single n0 ob0) v (single n0 ob1))
inductive XTrace (E : Ctx) (ops : List Oper) (M : List Nat) (g : Nat) (σ0 : Sto) (c : Nat) (n0 : Nm) (ob0 ob1 : Ob) : Nat → List Oper → List (Nat × D) → List (D × Sto) → List (Nat × D) → Prop
 | nil {i : Nat} {env : List (Nat × D)} : XTrace E ops M g σ0 c n0 ob0 ob1 i [] env [] env
 | cons {i : Nat} {o : Oper} {r : List Oper} {env env' : List (Nat × D)} {v : D} {nw : Sto} {tr : List (D × Sto)} : XStep E ops M g σ0 c n0 ob0 ob1 i o env v nw → XTrace E ops M g σ0 c n0 ob0 ob1 (i + 1) r (putE env o.dst v) tr env' → XTrace E ops M g σ0 c n0 ob0 ob1 i (o :: r) env ((v, nw) :: tr) env'
def XRun (E : Ctx) (ops : List Oper) (M : List Nat) (g : Nat) (σ0 : Sto) (c : Nat) (n0 : Nm) (ob0 ob1 : Ob) (i : Nat) (K : St → Prop) (l : List Oper) (st : St) : Prop :=
 ∃ tr env', XTrace E ops M g σ0 c n0 ob0 ob1 i l st.env tr env' ∧ K ⟨env', accN tr st.σ⟩
section
variable {E : Ctx} {N : Nat} {l : List Oper} {g : Nat} {st : St} {ops : List Oper} {M : List Nat} {σ0 : Sto} {c i0 : Nat} {n0 : Nm} {ob0 ob1 : Ob}
theorem XTrace.length {l : List Oper} {env env' : List (Nat × D)} {tr : List (D × Sto)} (h : XTrace E ops M g σ0 c n0 ob0 ob1 i0 l env tr env') : tr.length = l.length := by
 induction h with
 | nil => rfl
 | cons _ _ ih => simp [ih]
theorem XTrace.split {l : List Oper} {env env' : List (Nat × D)} {tr : List (D × Sto)} (h : XTrace E ops M g σ0 c n0 ob0 ob1 i0 l env tr env') : ∀ (i : Nat) o, l[i]? = some o → ∃ envi v nw, XTrace E ops M g σ0 c n0 ob0 ob1 i0 (l.take i) env (tr.take i) envi ∧ tr[i]? = some (v, nw) ∧ XStep E ops M g σ0 c n0 ob0 ob1 (i0 + i) o envi v nw := by
 induction h with
 | nil => intro i o h; simp at h
 | cons hs _ ih =>
  intro i o ho
  cases i with
  | zero => simp only [List.getElem?_cons_zero, Option.some.injEq] at ho; subst ho; exact ⟨_, _, _, .nil, rfl, hs⟩
  | succ i =>
   obtain ⟨envi, v, nw, h1, h2, h3⟩ := ih i o (by simpa using ho)
   refine ⟨envi, v, nw, .cons hs h1, h2, ?_⟩
   rw [show ∀ a : Nat, a + (i + 1) = a + 1 + i by omega]
   exact h3
theorem XTrace.env {l : List Oper} {env env' : List (Nat × D)} {tr : List (D × Sto)} (h : XTrace E ops M g σ0 c n0 ob0 ob1 i0 l env tr env') (t : Nat) :
  (∃ (j : Nat) (o : Oper) (v : D) (nw : Sto), l[j]? = some o ∧ o.dst = some t ∧ tr[j]? = some (v, nw) ∧ lk env' t = some v) ∨ ((∀ (j : Nat) o, l[j]? = some o → o.dst ≠ some t) ∧ lk env' t = lk env t) := by
 induction h with
 | nil => exact .inr ⟨fun j o h => by simp at h, rfl⟩
 | cons hs _ ih =>
  rename_i i o r env env' v nw tr _
  rcases ih with ⟨j, o', v', nw', h1, h2, h3, h4⟩ | ⟨h1, h2⟩
  ·exact .inl ⟨j + 1, o', v', nw', by simpa using h1, h2, by simpa using h3, h4⟩
  ·by_cases hd : o.dst = some t
   ·refine .inl ⟨0, o, v, nw, rfl, hd, rfl, ?_⟩
    rw [h2, hd]
    simp [putE, lk]
   ·refine .inr ⟨fun j o' ho => ?_, ?_⟩
    ·cases j with
     | zero => simp only [List.getElem?_cons_zero, Option.some.injEq] at ho; subst ho; exact hd
     | succ j => exact h1 j o' (by simpa using ho)
    ·rw [h2]
     cases hx : o.dst with
     | none => rfl
     | some d =>
      simp only [putE, lk]
      rw [if_neg (fun e => hd (by rw [hx, e]))]
theorem inv4_step {w0 : World} (hA : E.A w0) {nq c : Nat} {n0 : Nm} {ob0 ob1 : Ob} (hok : regOk N l nq = true) {tr : List (D × Sto)} {env' : List (Nat × D)} (htr : XTrace E l (masks l []) g st.σ c n0 ob0 ob1 0 (l.take nq) st.env tr env') (hσg : ∀ i j, get st.σ ⟨g, i, j⟩ = none) (hng : n0.g ≠ g) (hnσ : get st.σ n0 = none)
  {G1 : Gh} {w1 : World} {L : Nat → Bool} {G : Gh} {w : World} {a : Act} (hI : Inv3 w0 E N l g st tr G1 w1 c n0 ob0 ob1 L G w a) {i : Nat} {o : Oper} (hi : l[i]? = some o) (hin : i < nq) (hL : L i = false) (hready : ∀ e ∈ o.after, Region.binds .any e = true → L e.on = true)
  {L' : Nat → Bool} (hL' : L' i = true) (hLo : ∀ j, j ≠ i → L' j = L j) {Q' : Exit → Act → World → Prop} {K : Act → World → Prop} (hK : ∀ G' w' a', Inv3 w0 E N l g st tr G1 w1 c n0 ob0 ob1 L' G' w' a' → K a' w') : ∀ r, wpOpIn (Fr r) 0 E.P l.toArray Q' i K a w := by
 intro rd
 simp only [regOk, Bool.and_eq_true] at hok
 obtain ⟨⟨⟨hd, hE⟩, hlk⟩, _⟩ := hok
 obtain ⟨hnd, hlt⟩ := dstsOk_spec hd
 have hlook := allIdx_spec hlk i o hi
 simp only [Nat.zero_add] at hlook
 have hq : (l.take nq)[i]? = some o := by rw [List.getElem?_take, if_pos hin]; exact hi
 obtain ⟨envi, v, nw, ht1, ht2, hstep⟩ := htr.split i o hq
 -- a temporary that the operation looks at holds what it did in the order of the text
 have hsee : ∀ t d, t ∈ looks l o → lk envi t = some d → t < a.tmps.size ∧ V G w (a.tmps.getD t undef) d := by
  intro t d ht hl
  rw [hI.size]
  rcases ht1.env t with ⟨j, o', v', nw', k1, k2, k3, k4⟩ | ⟨k1, k2⟩
  ·rw [k4] at hl
   cases hl
   have hji : j < i ∧ l[j]? = some o' := by
    rw [List.getElem?_take] at k1
    split at k1
    ·rename_i h1
     rw [List.getElem?_take] at k1
     split at k1
     ·exact ⟨h1, k1⟩
     ·cases k1
    ·cases k1
   have hb := looksOk_spec hlook ht hji.2 k2 (by omega)
   rw [if_pos hji.1] at hb
   obtain ⟨m, hm, hbit⟩ := bit_spec hb
   have hLj := anc hE hI.down i o hi hready j m hm hbit
   have k3' : tr[j]? = some (d, nw') := by
    rw [List.getElem?_take] at k3
    split at k3
    ·exact k3
    ·cases k3
   exact ⟨hlt o' (List.mem_of_getElem? hji.2) t k2, hI.new j o' t d nw' hLj hji.2 k2 k3'⟩
  ·rw [k2] at hl
   refine hI.old t d hl fun j o' hLj hj hdj => ?_
   have hji : ¬ j < i := fun h => k1 j o' (by rw [List.getElem?_take, if_pos h, List.getElem?_take, if_pos (by omega)]; exact hj) hdj
   have hne : j ≠ i := fun e => by subst e; rw [hL] at hLj; cases hLj
   have hb := looksOk_spec hlook ht hj hdj hne
   rw [if_neg hji] at hb
   obtain ⟨m, hm, hbit⟩ := bit_spec hb
   have := anc hE hI.down j o' hj (hI.down j o' hj hLj) i m hm hbit
   rw [hL] at this
   cases this
 have hdst : ∀ d, o.dst = some d → d < a.tmps.size := fun d hd' => by rw [hI.size]; exact hlt o (List.mem_of_getElem? hi) d hd'
 have hlen := htr.length
 have hilt : i < (l.take nq).length := (List.getElem?_eq_some_iff.1 hq).1
 -- names of different operations' new things are different
 have names : ∀ (j : Nat) p, tr[j]? = some p → ∀ q ∈ p.2, q.1.g = g ∧ ∃ o', l[j]? = some o' ∧ o'.dst = some q.1.i := by
  intro j p hp q hq'
  have hjl : j < (l.take nq).length := by have := (List.getElem?_eq_some_iff.1 hp).1; omega
  have hoj : (l.take nq)[j]? = some (l.take nq)[j] := List.getElem?_eq_getElem hjl
  obtain ⟨_, v', nw', _, k2, k3⟩ := htr.split j _ hoj
  rw [hp] at k2
  cases k2
  have hoj' : l[j]? = some (l.take nq)[j] := by
   rw [List.getElem?_take] at hoj
   split at hoj
   ·exact hoj
   ·cases hoj
  rcases k3 with ⟨_, _, _, ⟨_, _, k3⟩ | ⟨_, _, k3⟩⟩ | ⟨_, k3, _⟩
  ·exact ⟨(k3 q hq').1, _, hoj', (k3 q hq').2⟩
  ·simp only at hq'
   rw [k3] at hq'
   cases hq'
  ·simp only at hq'
   rw [k3] at hq'
   cases hq'
 have hdis : ∀ (j : Nat) p, tr[j]? = some p → 0 + j ≠ i → Dis (get nw) (get p.2) := by
  intro j p hp hne n
  cases h1 : get nw n with
  | none => exact .inl rfl
  | some x =>
   cases h2 : get p.2 n with
   | none => exact .inr rfl
   | some y =>
    obtain ⟨_, o1, q1, q2⟩ := names i _ ht2 (n, x) (mem_of_get h1)
    obtain ⟨_, o2, q3, q4⟩ := names j _ hp (n, y) (mem_of_get h2)
    exact absurd (nodup_dst hnd i j o1 o2 _ q1 q3 q2 q4) (by omega)
 have hput := kapp_put hL hL' hLo 0 tr (get st.σ) v nw (Nat.zero_le _) (by simpa using ht2) hdis
 obtain ⟨τ, hτ⟩ : ∃ τ : Kp, τ = single n0 (if L c = true then ob1 else ob0) := ⟨_, rfl⟩
 obtain ⟨τ', hτ'⟩ : ∃ τ' : Kp, τ' = single n0 (if L' c = true then ob1 else ob0) := ⟨_, rfl⟩
 unfold Inv3 at hI hK
 rw [← hτ] at hI
 rw [← hτ'] at hK
 -- what follows once a value is there
 have fin : ∀ G' w' x, WF w0 G' w' → V G' w' x v → Objs w0 G' w' (Kp.or (kapp L' 0 tr (get st.σ)) τ') → Step (rsv g o.dst) G w (Kp.or (kapp L 0 tr (get st.σ)) τ) G' w' (Kp.or (kapp L' 0 tr (get st.σ)) τ') → K (a.put o.dst x) w' := by
  intro G' w' x hw' hv ho hs
  have hsame : ∀ t, o.dst ≠ some t → (a.put o.dst x).tmps.getD t undef = a.tmps.getD t undef := by
   intro t ht
   cases hdo : o.dst with
   | none => rfl
   | some d =>
    simp only [Act.put, Array.getD_eq_getD_getElem?, Array.getElem?_setIfInBounds]
    rw [if_neg (fun e => ht (by rw [hdo, e]))]
  refine hK G' w' _ ⟨by rw [put_size, hI.size], by cases o.dst <;> exact hI.defers.step hs hI.wf hI.objs, hw', fun t d hl hno => ?_, fun j o' t v' nw' hLj hj hdj hp => ?_, ho, ⟨Nat.lt_of_lt_of_le hI.fresh.1 hs.top, fun j o' d hLj hj hdj q => ?_⟩, hI.step.trans (hs.weaken fun n _ hn => hn.1), fun j o' hj hLj e he hb => ?_⟩
  ·have hne : o.dst ≠ some t := hno i o hL' hi
   rw [hsame t hne]
   obtain ⟨h1, h2⟩ := hI.old t d hl fun j o' hLj hj => by
    by_cases hji : j = i
    ·subst hji; rw [hL] at hLj; cases hLj
    ·exact hno j o' (by rw [hLo j hji]; exact hLj) hj
   exact ⟨h1, h2.step hs hI.wf hI.objs⟩
  ·by_cases hji : j = i
   ·subst hji
    rw [hi] at hj
    cases hj
    rw [ht2] at hp
    cases hp
    have := hdst t hdj
    simp only [hdj, Act.put, Array.getD_eq_getD_getElem?, Array.getElem?_setIfInBounds]
    simp only [↓reduceIte, this, Option.getD_some]
    exact hv
   ·rw [hLo j hji] at hLj
    rw [hsame t fun e => hji (nodup_dst hnd j i o' o t hj hi hdj e)]
    exact (hI.new j o' t v' nw' hLj hj hdj hp).step hs hI.wf hI.objs
  ·have hji : j ≠ i := fun e => by subst e; rw [hL'] at hLj; cases hLj
   rw [hLo j hji] at hLj
   exact hs.fresh hI.fresh.1 (hI.fresh.2 j o' d hLj hj hdj q) fun ⟨_, he⟩ => hji (nodup_dst hnd j i o' o d hj hi hdj he)
  ·have keep : L e.on = true → L' e.on = true := fun h => by
    by_cases h' : e.on = i
    ·rw [h']; exact hL'
    ·rw [hLo _ h']; exact h
   by_cases hji : j = i
   ·subst hji
    rw [hi] at hj
    cases hj
    exact keep (hready e he hb)
   ·simp only at hLj
    rw [hLo j hji] at hLj
    exact keep (hI.down j o' hj hLj e he hb)
 unfold wpOpIn
 simp only [List.getElem?_toArray, hi]
 rcases hstep with ⟨hic, bb, hbb, ⟨hw, hqop, _⟩ | ⟨hw, rfl, rfl⟩⟩ | ⟨hic, rfl, hgd, htop⟩
 ·have hττ : τ' = τ := by rw [hτ, hτ', hLo c (fun e => hic (by omega))]
  rw [hττ] at fin
  rw [if_pos (wanted_of hw hsee)]
  have hold : ∀ n x, get st.σ n = some x → kapp L 0 tr (get st.σ) n = some x := by
   intro n x hn
   rw [kapp_old 0 tr _ fun p hp => ?_]
   ·exact hn
   ·cases hg : get p.2 n with
    | none => rfl
    | some y =>
     obtain ⟨j, hj⟩ := List.mem_iff_getElem?.1 hp
     have := (names j p hj (n, y) (mem_of_get hg)).1
     obtain ⟨ng, ni, nj⟩ := n
     have this' : ng = g := this
     subst this'
     rw [hσg] at hn
     cases hn
  have hold2 : ∀ n x, get st.σ n = some x → Kp.or (kapp L 0 tr (get st.σ)) τ n = some x := fun n x hn => by simp [Kp.or, hold n x hn]
  have hnk : kapp L 0 tr (get st.σ) n0 = none := by
   rw [kapp_old 0 tr _ fun p hp => ?_]
   ·exact hnσ
   ·obtain ⟨j, hj⟩ := List.mem_iff_getElem?.1 hp
    cases hgp : get p.2 n0 with
    | none => rfl
    | some y => exact absurd (names j p hj (n0, y) (mem_of_get hgp)).1 hng
  obtain ⟨σx, hσx⟩ : ∃ σx : Sto, σx = if bb = true then (n0, ob0) :: st.σ else st.σ := ⟨_, rfl⟩
  rw [← hσx] at hqop
  have hold3 : ∀ n x, get σx n = some x → Kp.or (kapp L 0 tr (get st.σ)) τ n = some x := by
   intro n x hn
   rw [hσx] at hn
   cases bb with
   | false => exact hold2 n x hn
   | true =>
    simp only [if_true, get] at hn
    by_cases hm : n0 = n
    ·rw [if_pos hm] at hn
     cases hn
     subst hm
     have hLc : L c = false := by
      refine Bool.eq_false_iff.2 fun hLc => ?_
      obtain ⟨m, hm, hbit⟩ := bit_spec (hbb rfl)
      have hml := (List.getElem?_eq_some_iff.1 hm).1
      rw [(masks_get l []).1] at hml
      have hcl : c < l.length := by simpa using hml
      have := anc hE hI.down c _ (List.getElem?_eq_getElem hcl) (hI.down c _ (List.getElem?_eq_getElem hcl) hLc) i m hm (by simpa using hbit)
      rw [hL] at this
      cases this
     simp [Kp.or, hnk, hτ, hLc, single]
    ·rw [if_neg hm] at hn
     exact hold2 n x hn
  refine hqop w0 hA G w a hI.wf (fun x hx => ?_) (hI.objs.sub hold3) (fun d hd' => ⟨hI.fresh.1, fun j => hI.fresh.2 i o d hL hi hd' j⟩) K Q' (fun G' w' x hw' hv ho hs => ?_) rd
  ·cases x with
   | tmp t =>
    simp only [Act.eval, Ab.ev]
    cases hl : lk envi t with
    | none => exact .any _
    | some d => exact (hsee t d (by unfold looks; exact List.mem_append_left _ (List.mem_filterMap.2 ⟨.tmp t, by simpa using hx, rfl⟩)) hl).2
   | const v => exact V.ofV G w v
   | global g => exact E.hglob w0 hA G w hI.wf g
   | func f => exact .func rfl rfl (by simp) (by simp)
  ·obtain ⟨f1, f2⟩ := frame (κs := get σx) (τ := fun n => if get σx n = none then Kp.or (kapp L 0 tr (get st.σ)) τ n else none) hI.wf hI.objs hold3 (fun n x hn => by
    split at hn
    ·rename_i h0; exact ⟨hn, h0⟩
    ·cases hn) hs ho
   have he : Kp.or (Kp.or (get nw) (get σx)) (fun n => if get σx n = none then Kp.or (kapp L 0 tr (get st.σ)) τ n else none) = Kp.or (kapp L' 0 tr (get st.σ)) τ := by
    rw [hput]
    funext n
    simp only [Kp.or]
    cases h1 : get nw n with
    | some y => simp
    | none =>
     simp only [Option.none_or]
     cases h2 : get σx n with
     | none => simp
     | some y =>
      have h3 := hold3 n y h2
      simp only [Kp.or] at h3
      simp [h3]
   rw [he] at f1 f2
   exact fin G' w' x hw' hv f1 f2
 ·have hττ : τ' = τ := by rw [hτ, hτ', hLo c (fun e => hic (by omega))]
  rw [hττ] at fin
  rw [wanted_of hw hsee, if_neg (by simp)]
  refine ⟨fun f _ => fr_fn rd f, ?_⟩
  have he : kapp L' 0 tr (get st.σ) = kapp L 0 tr (get st.σ) := by
   rw [hput]
   funext n
   simp [Kp.or, get]
  exact fin G w undef hI.wf (.val _) (by rw [he]; exact hI.objs) (by rw [he]; exact .refl _ _ _ _)
 ·have hci : i = c := by omega
  subst hci
  have hττ : τ = single n0 ob0 := by rw [hτ, hL]; rfl
  have hττ' : τ' = single n0 ob1 := by rw [hτ', hL']; rfl
  rw [hττ, hττ'] at fin
  rw [hττ] at hI
  have hsame : kapp L' 0 tr (get st.σ) = kapp L 0 tr (get st.σ) := by
   rw [hput]
   funext m
   simp [Kp.or, get]
  rw [hsame] at fin
  have hnk : kapp L 0 tr (get st.σ) n0 = none := by
   rw [kapp_old 0 tr _ fun p hp => ?_]
   ·exact hnσ
   ·obtain ⟨j, hj⟩ := List.mem_iff_getElem?.1 hp
    cases hgp : get p.2 n0 with
    | none => rfl
    | some y => exact absurd (names j p hj (n0, y) (mem_of_get hgp)).1 hng
  rw [if_pos (by simp [Region.wanted, hgd])]
  have hdis0 : Dis (kapp L 0 tr (get st.σ)) (single n0 ob0) := fun m => by
   by_cases hm : n0 = m
   ·subst hm; exact .inl hnk
   ·exact .inr (by simp [single, hm])
  have hdis1 : Dis (kapp L 0 tr (get st.σ)) (single n0 ob1) := fun m => by
   by_cases hm : n0 = m
   ·subst hm; exact .inl hnk
   ·exact .inr (by simp [single, hm])
  have hsub : ∀ m x, single n0 ob0 m = some x → Kp.or (kapp L 0 tr (get st.σ)) (single n0 ob0) m = some x := fun m x hm => by
   rw [or_swap hdis0]
   simp [Kp.or, hm]
  refine htop w0 hA G w a hI.wf (fun x hx => ?_) (hI.objs.sub hsub) (fun d hd' => ⟨hI.fresh.1, fun j => hI.fresh.2 i o d hL hi hd' j⟩) K Q' (fun G' w' x hw' hv ho hs => ?_) rd
  ·cases x with
   | tmp t =>
    simp only [Act.eval, Ab.ev]
    cases hl : lk envi t with
    | none => exact .any _
    | some d => exact (hsee t d (by unfold looks; exact List.mem_append_left _ (List.mem_filterMap.2 ⟨.tmp t, by simpa using hx, rfl⟩)) hl).2
   | const v => exact V.ofV G w v
   | global g => exact E.hglob w0 hA G w hI.wf g
   | func f => exact .func rfl rfl (by simp) (by simp)
  ·obtain ⟨f1, f2⟩ := frame (κs := single n0 ob0) (τ := kapp L 0 tr (get st.σ)) hI.wf hI.objs hsub (fun m x hm => ⟨by simp [Kp.or, hm], by
     by_cases he : n0 = m
     ·subst he; rw [hnk] at hm; cases hm
     ·simp [single, he]⟩) hs ho
   have he1 : Kp.or (single n0 ob1) (kapp L 0 tr (get st.σ)) = Kp.or (kapp L 0 tr (get st.σ)) (single n0 ob1) := by rw [or_swap hdis1]
   rw [he1] at f1 f2
   exact fin G' w' x hw' hv f1 f2
theorem any_of_inv4 {rd : Option Nat} {w0 : World} (hA : E.A w0) {nq c : Nat} {n0 : Nm} {ob0 ob1 : Ob} (hnq : nq ≤ l.length) (hok : regOk N l nq = true) {tr : List (D × Sto)} {env' : List (Nat × D)} (htr : XTrace E l (masks l []) g st.σ c n0 ob0 ob1 0 (l.take nq) st.env tr env') (hσg : ∀ i j, get st.σ ⟨g, i, j⟩ = none) (hng : n0.g ≠ g) (hnσ : get st.σ n0 = none)
  {G1 : Gh} {w1 : World} {Q' : Exit → Act → World → Prop} (hend : ∀ L G w a, (∀ j, j < nq → L j = true) → (∀ j, nq ≤ j → L j = false) → Inv3 w0 E N l g st tr G1 w1 c n0 ob0 ob1 L G w a → wpListIn (Fr rd) 0 E.P l.toArray Q' (l.drop nq) a w) :
  ∀ (fuel : Nat) (A : Array Bool) (G : Gh) (w : World) (a : Act), A.size = l.length → left A l.length = fuel → (∀ j, nq ≤ j → j < l.length → A.getD j true = false) → Inv3 w0 E N l g st tr G1 w1 c n0 ob0 ob1 (fun j => A.getD j false) G w a →
   wpAnyIn (Fr rd) 0 E.P .any l.toArray Q' fuel A a w := by
 have hok' := hok
 simp only [regOk, Bool.and_eq_true] at hok'
 obtain ⟨⟨⟨_, hE⟩, _⟩, htail⟩ := hok'
 have same : ∀ (A : Array Bool) (j : Nat), A.size = l.length → j < l.length → A.getD j true = A.getD j false := fun A j h1 h2 => by
  simp [show j < A.size by omega]
 intro fuel
 induction fuel with
 | zero =>
  intro A G w a hsz hlf hT hI
  have hall := left_zero hlf
  have hn : nq = l.length := by
   refine Nat.le_antisymm hnq (Nat.le_of_not_lt fun hlt => ?_)
   have h1 := hall nq hlt
   rw [hT nq (Nat.le_refl _) hlt] at h1
   cases h1
  refine any_of_list hE htail 0 l.length A a w hsz hnq (by omega) (fun j hj => by rw [hall j hj]; simp [hj]) ?_
  rw [← hn]
  refine hend _ G w a (fun j hj => by rw [← same A j hsz (by omega)]; exact hall j (by omega)) (fun j hj => ?_) hI
  simp [Array.getElem?_eq_none (show A.size ≤ j by omega)]
 | succ fuel ih =>
  intro A G w a hsz hlf hT hI
  by_cases hQ : left A nq = 0
  ·have hall := left_zero hQ
   have hcount : left A l.length = l.length - nq := by
    have : ∀ m, nq ≤ m → m ≤ l.length → left A m = m - nq := by
     intro m
     induction m with
     | zero => intro h1 _; rw [Nat.le_zero.1 h1] at hQ; simp [left]
     | succ m ihm =>
      intro h1 h2
      by_cases h3 : nq = m + 1
      ·rw [← h3, hQ]; omega
      ·rw [left_succ, ihm (by omega) (by omega), hT m (by omega) (by omega)]
       simp
       omega
    exact this _ hnq (Nat.le_refl _)
   refine any_of_list hE htail (fuel + 1) nq A a w hsz (Nat.le_refl _) (by omega) (fun j hj => ?_) ?_
   ·by_cases h : j < nq
    ·rw [hall j h]; simp [h]
    ·rw [hT j (by omega) hj]; simp [h]
   ·refine hend _ G w a (fun j hj => by rw [← same A j hsz (by omega)]; exact hall j hj) (fun j hj => ?_) hI
    by_cases h : j < l.length
    ·rw [← same A j hsz h]; exact hT j hj h
    ·simp [Array.getElem?_eq_none (show A.size ≤ j by omega)]
  ·obtain ⟨q, hq1, hq2, hq3⟩ := left_pos hQ
   have hoq : l[q]? = some l[q] := List.getElem?_eq_getElem (by omega)
   have hqr : q ∈ Region.ready .any l.toArray A := by
    refine mem_ready.2 ⟨hq2, l[q], by simp, fun e he hb => ?_⟩
    have := edgesOk_spec 0 l hE q _ hoq e he hb
    rw [← same A e.on hsz (by omega)]
    exact hq3 e.on (by omega)
   refine ⟨fun h0 => (by rw [h0] at hqr; cases hqr), fun i hi => ?_⟩
   obtain ⟨h1, o, h2, h3⟩ := mem_ready.1 hi
   simp only [List.getElem?_toArray] at h2
   have hil := (List.getElem?_eq_some_iff.1 h2).1
   have hin : i < nq := by
    refine Nat.lt_of_not_le fun hge => ?_
    have ht := allIdx_spec htail i o h2
    simp only [Nat.zero_add, Bool.or_eq_true, decide_eq_true_eq, List.all_eq_true] at ht
    have hb := (ht.resolve_left (by omega)) q (List.mem_range.2 (by omega))
    obtain ⟨m, hm, hbit⟩ := bit_spec hb
    have := anc hE hI.down i o h2 h3 q m hm hbit
    rw [← same A q hsz (by omega), hq2] at this
    cases this
   refine inv4_step hA hok htr hσg hng hnσ hI h2 hin (by rw [← same A i hsz hil]; exact h1) h3 (L' := fun j => (A.setIfInBounds i true).getD j false) (by simp [show i < A.size by omega]) (fun j hj => getD_set_ne false (Ne.symm hj)) (fun G' w' a' hI' => ?_) rd
   refine ih (A.setIfInBounds i true) G' w' a' (by simpa using hsz) ?_ (fun j hj1 hj2 => by rw [getD_set_ne true (by omega)]; exact hT j hj1 hj2) hI'
   have := left_set A h1 l.length
   rw [if_pos hil] at this
   omega
theorem awp_mid2 {Q : Exit → St → Prop} {id : Nat} {ds : List (Option Tmp)} (nq c : Nat) (n0 : Nm) (ob1 : Ob) (M : List Nat) (hM : masks l [] = M) (hnq : decide (nq ≤ l.length) = true) (hc : decide (c < nq) = true) (hok : regOk N l nq = true) (hds : l.map (·.dst) = ds)
  (h : SomeP (get st.σ n0) fun ob0 => ∀ g, (∀ i j, get st.σ ⟨g, i, j⟩ = none) → ∀ (ops : List Oper) (K : St → Prop), ops.map (·.dst) = ds → (∀ s, Q .normal s → K s) →
   XRun E ops M g (del st.σ n0) c n0 ob0 ob1 0 (fun s => AOps E N ops g K (l.drop nq) { env := s.env, σ := (n0, ob1) :: s.σ }) (l.take nq) { env := st.env, σ := del st.σ n0 }) : AWp E N (.region id l.toArray true) Q st := by
 subst hM
 have hnq : nq ≤ l.length := by simpa using hnq
 have hc : c < nq := by simpa using hc
 obtain ⟨ob0, hn, h⟩ := h.elim
 intro w0 hA G w a hN hr rd hrd
 obtain ⟨G1, ht, hf, hσ, hr1, hs1⟩ := bump hr
 have hok' := hok
 simp only [regOk, Bool.and_eq_true] at hok'
 obtain ⟨hnd, hlt⟩ := dstsOk_spec hok'.1.1.1
 obtain ⟨tr, env', htr, hK⟩ := h G.top hσ l (fun s => Q .normal s) hds (fun _ h => h)
 have hng : n0.g ≠ G.top := fun e => by
  obtain ⟨ng, ni, nj⟩ := n0
  simp only at e
  subst e
  rw [hσ] at hn
  cases hn
 have hnσ : get (del st.σ n0) n0 = none := by rw [get_del]; simp
 have hσg : ∀ i j, get (del st.σ n0) ⟨G.top, i, j⟩ = none := fun i j => by
  rw [get_del]
  split
  ·rfl
  ·exact hσ i j
 have hsplit : ∀ κ : Kp, κ = get (del st.σ n0) → Kp.or κ (single n0 ob0) = get st.σ := fun κ hκ => by
  subst hκ
  funext m
  simp only [Kp.or, get_del, single]
  by_cases hm : n0 = m
  ·subst hm; simp [hn]
  ·simp [hm]
 refine wpIn_region_any E.mixed ?_
 have hV : ∀ v d, V G1 w v d → V G1 { w with drawn := w.drawn + 1 } v d := fun v d h => h.mono (fun _ h => h) (fun _ _ => rfl) (fun _ _ h => h)
 have hno : ∀ j, (Array.replicate l.length false).getD j false = false := fun j => by
  by_cases hj : j < l.length
  ·simp [hj]
  ·simp [Array.getElem?_eq_none (show (Array.replicate l.length false).size ≤ j by simp; omega)]
 have hI0 : Inv3 w0 E N l G.top { env := st.env, σ := del st.σ n0 } tr G1 { w with drawn := w.drawn + 1 } c n0 ob0 ob1 (fun j => (Array.replicate l.length false).getD j false) G1 { w with drawn := w.drawn + 1 } a := by
  have hk0 : kapp (fun j => (Array.replicate l.length false).getD j false) 0 tr (get (del st.σ n0)) = get (del st.σ n0) := kapp_none 0 tr _ hno
  unfold Inv3
  simp only [hno]
  have hno' := hno
  refine ⟨hN, hr1.defers, ⟨hr1.wf.below.draw, hr1.wf.old, hr1.wf.lt, hr1.wf.nm⟩, fun t d hl _ => ⟨by rw [← hN]; exact (hr1.env t d hl).1, hV _ _ (hr1.env t d hl).2⟩, fun j o t v nw hL => ?_, ?_, ⟨by omega, fun j o d _ _ _ q => hf d q⟩, ?_, fun i o _ hL => ?_⟩
  ·cases hL
  ·simp only [hno] at hk0 ⊢
   rw [hk0]
   simp only [Bool.false_eq_true, if_false]
   rw [hsplit _ rfl]
   exact ⟨fun n o hn => let ⟨v, h1, h2, h3⟩ := hr1.objs.ob n o hn; ⟨v, h1, h2.mono hV fun _ _ => rfl, h3⟩, hr1.objs.ne⟩
  ·simp only [hno] at hk0 ⊢
   rw [hk0]
   simp only [Bool.false_eq_true, if_false]
   exact .refl _ _ _ _
  ·cases hL
 have hlen := htr.length
 refine any_of_inv4 (st := { env := st.env, σ := del st.σ n0 }) hA hnq hok htr hσg hng hnσ (fun L G' w' a' hL1 hL2 hI => ?_) l.toArray.size (Array.replicate l.toArray.size false) G1 _ a (by simp) (by simp only [List.size_toArray]; exact left_full _ _ (Nat.le_refl _)) (fun j h1 h2 => by simp [h2]) (by simpa using hI0)
 have hkall : kapp L 0 tr (get (del st.σ n0)) = get (accN tr (del st.σ n0)) := kapp_all 0 tr _ fun j _ hj => hL1 j (by rw [hlen, List.length_take] at hj; omega)
 have hnacc : get (accN tr (del st.σ n0)) n0 = none := by
  rw [← hkall]
  rw [kapp_old 0 tr _ fun p hp => ?_]
  ·exact hnσ
  ·obtain ⟨j, hj⟩ := List.mem_iff_getElem?.1 hp
   cases hgp : get p.2 n0 with
   | none => rfl
   | some y =>
    have hjl : j < (l.take nq).length := by have := (List.getElem?_eq_some_iff.1 hj).1; omega
    obtain ⟨_, v', nw', _, k2, k3⟩ := htr.split j _ (List.getElem?_eq_getElem hjl)
    rw [hj] at k2
    cases k2
    rcases k3 with ⟨_, _, _, ⟨_, _, k3⟩ | ⟨_, _, k3⟩⟩ | ⟨_, k3, _⟩
    ·exact absurd (k3 (n0, y) (mem_of_get hgp)).1 hng
    ·simp only at hgp
     rw [k3] at hgp
     cases hgp
    ·simp only at hgp
     rw [k3] at hgp
     cases hgp
 have hor : Kp.or (get (accN tr (del st.σ n0))) (single n0 ob1) = get ((n0, ob1) :: accN tr (del st.σ n0)) := by
  funext m
  simp only [Kp.or, single, get]
  by_cases hm : n0 = m
  ·subst hm; simp [hnacc]
  ·simp [hm]
 unfold Inv3 at hI
 rw [hL1 c hc] at hI
 simp only [if_true] at hI
 have hobj := hI.objs
 have hstep := hI.step
 simp only at hobj hstep
 rw [hkall, hor] at hobj hstep
 rw [hsplit _ rfl] at hstep
 have hrel : Rel w0 G' w' a' ⟨env', (n0, ob1) :: accN tr (del st.σ n0)⟩ := by
  refine ⟨hI.wf, fun t d hl => ?_, hobj, hI.defers⟩
  rw [hI.size]
  have get_take : ∀ (j : Nat) o, (l.take nq)[j]? = some o → j < nq ∧ l[j]? = some o := fun j o h => by
   rw [List.getElem?_take] at h
   split at h
   ·rename_i hj; exact ⟨hj, h⟩
   ·cases h
  rcases htr.env t with ⟨j, o, v, nw, k1, k2, k3, k4⟩ | ⟨k1, k2⟩
  ·simp only at hl
   rw [k4] at hl
   cases hl
   obtain ⟨hj, hjo⟩ := get_take j o k1
   exact ⟨hlt o (List.mem_of_getElem? hjo) t k2, hI.new j o t d nw (hL1 j hj) hjo k2 k3⟩
  ·simp only at hl
   rw [k2] at hl
   refine hI.old t d hl fun j o hLj hj => ?_
   by_cases hjn : j < nq
   ·exact k1 j o (by rw [List.getElem?_take, if_pos hjn]; exact hj)
   ·rw [hL2 j (by omega)] at hLj; cases hLj
 refine hK w0 hA G' w' a' hI.size hrel hI.fresh.1 ?_ (fun o ho d hd => ?_) _ (fun G2 st2 a2 w2 q1 q2 q3 q4 => ⟨G2, st2, q1, q2, ?_, q4⟩) rd
 ·exact hnd.sublist ((List.drop_sublist nq l).filterMap _)
 ·obtain ⟨j, hj⟩ := List.mem_iff_getElem?.1 ho
  rw [List.getElem?_drop] at hj
  exact ⟨hlt o (List.mem_of_getElem? hj) d hd, hI.fresh.2 (nq + j) o d (hL2 _ (by omega)) hj hd⟩
 ·have hs2 : Step (fun n => n.g = G.top) G w (get st.σ) G1 { w with drawn := w.drawn + 1 } (get st.σ) :=
   ⟨Nat.le_refl _, fun _ _ _ => rfl, hs1.F, hs1.F', hs1.ρ, fun n h1 h2 _ => hs1.ρ' n h1 h2 fun h => h, hs1.top, hs1.blk', hs1.dom, hs1.base⟩
  exact ((hs2.trans hstep).trans q3).weaken fun n hn he => by omega
variable {K : St → Prop} {ds : List (Option Tmp)} {i : Nat} {st' : St}
theorem xrun_nil (h : K st) : XRun E ops M g σ0 c n0 ob0 ob1 i K [] st := ⟨[], st.env, .nil, h⟩
theorem xrun_cons {o : Oper} {r : List Oper} {v : D} {nw : Sto} (hs : XStep E ops M g σ0 c n0 ob0 ob1 i o st.env v nw) (h : XRun E ops M g σ0 c n0 ob0 ob1 (i + 1) K r { env := putE st.env o.dst v, σ := nw ++ st.σ }) : XRun E ops M g σ0 c n0 ob0 ob1 i K (o :: r) st :=
 let ⟨tr, env', h1, h2⟩ := h
 ⟨(v, nw) :: tr, env', .cons hs h1, h2⟩
theorem xrun_step {o : Oper} {r : List Oper} (b : Bool) (hic : i ≠ c) (hb : b = true → bit M c i = true) (hds : ops.map (·.dst) = ds) (h : stepQ E ds g (if b = true then (n0, ob0) :: σ0 else σ0) o st = some st') (k : XRun E ops M g σ0 c n0 ob0 ob1 (i + 1) K r st') : XRun E ops M g σ0 c n0 ob0 ob1 i K (o :: r) st := by
 unfold stepQ at h
 rw [wantL_eq hds] at h
 split at h
 ·rename_i hw
  simp only [Option.map_eq_some_iff] at h
  obtain ⟨⟨v, nw⟩, hp, rfl⟩ := h
  exact xrun_cons (.inl ⟨hic, b, hb, .inl ⟨hw, dop_sound hp, dop_names hp⟩⟩) k
 ·rename_i hw
  cases h
  exact xrun_cons (nw := []) (.inl ⟨hic, b, hb, .inr ⟨hw, rfl, rfl⟩⟩) k
 ·cases h
theorem xrun_run (b : Bool) (n : Nat) (hds : ops.map (·.dst) = ds) : ∀ {i : Nat} {l l' : List Oper} {st st' : St}, (i + n ≤ c ∨ c < i) → (b = true → ∀ j, i ≤ j → j < i + n → bit M c j = true) → qrun E ds g (if b = true then (n0, ob0) :: σ0 else σ0) n l st = some (l', st') → n ≤ l.length → XRun E ops M g σ0 c n0 ob0 ob1 (i + n) K l' st' → XRun E ops M g σ0 c n0 ob0 ob1 i K l st := by
 induction n with
 | zero =>
  intro i l l' st st' _ _ h _ k
  simp only [qrun, Option.some.injEq, Prod.mk.injEq] at h
  obtain ⟨rfl, rfl⟩ := h
  exact k
 | succ n ih =>
  intro i l l' st st' hc hb h hl k
  cases l with
  | nil => simp at hl
  | cons o r =>
   simp only [qrun] at h
   split at h
   ·rename_i s hs
    exact xrun_step b (by omega) (fun h => hb h i (Nat.le_refl _) (by omega)) hds hs (ih (by omega) (fun h j h1 h2 => hb h j (by omega) (by omega)) h (by simpa using hl) (by rw [show i + 1 + n = i + (n + 1) by omega]; exact k))
   ·cases h
theorem xrun_eval (n : Nat) {l : List Oper} (hds : ops.map (·.dst) = ds) (hl : decide (n ≤ l.length) = true) (hc : (decide (i + n ≤ c) || decide (c < i)) = true) (h : SomeP (qrun E ds g σ0 n l st) fun r => XRun E ops M g σ0 c n0 ob0 ob1 (i + n) K r.1 r.2) : XRun E ops M g σ0 c n0 ob0 ob1 i K l st := by
 obtain ⟨⟨l', st'⟩, h1, h2⟩ := h.elim
 exact xrun_run false n hds (by simpa using hc) (fun h => nomatch h) h1 (by simpa using hl) h2
theorem xrunA_eval (n : Nat) {l : List Oper} (hds : ops.map (·.dst) = ds) (hl : decide (n ≤ l.length) = true) (hc : (decide (i + n ≤ c) || decide (c < i)) = true) (hb : ((List.range n).all fun j => bit M c (i + j)) = true) (h : SomeP (qrun E ds g ((n0, ob0) :: σ0) n l st) fun r => XRun E ops M g σ0 c n0 ob0 ob1 (i + n) K r.1 r.2) : XRun E ops M g σ0 c n0 ob0 ob1 i K l st := by
 obtain ⟨⟨l', st'⟩, h1, h2⟩ := h.elim
 refine xrun_run true n hds (by simpa using hc) (fun _ j h1 h2 => ?_) h1 (by simpa using hl) h2
 have := List.all_eq_true.1 hb (j - i) (List.mem_range.2 (by omega))
 rw [show i + (j - i) = j by omega] at this
 exact this
theorem xrun_store {o : Oper} {r : List Oper} {t : TypeId} {ao x : Operand} (hic : decide (i = c) = true) (hgd : o.guard = none) (hd : o.dst = none) (hop : o.op = .store t ao x) (h : SomeP (storeD E.P t (ev E st.env ao) (ev E st.env x) [(n0, ob0)]) fun σ1 => σ1 = [(n0, ob1)])
  (k : XRun E ops M g σ0 c n0 ob0 ob1 (i + 1) K r { env := st.env, σ := st.σ }) : XRun E ops M g σ0 c n0 ob0 ob1 i K (o :: r) st := by
 obtain ⟨σ1, h1, rfl⟩ := h.elim
 have ht := storeD_sound (E := E) (g := g) (e := ev E st.env) hop h1
 have e1 : get [(n0, ob0)] = single n0 ob0 := get_single _ _
 have e2 : get [(n0, ob1)] = single n0 ob1 := get_single _ _
 rw [e1, e2] at ht
 refine xrun_cons (v := .val undef) (nw := []) (.inr ⟨by simpa using hic, rfl, hgd, ht⟩) ?_
 rw [hd]
 exact k
theorem xrun_done {l : List Oper} (h : l = [] ∧ K st) : XRun E ops M g σ0 c n0 ob0 ob1 i K l st := by
 obtain ⟨rfl, h⟩ := h
 exact xrun_nil h
end
end Go.Ab
namespace Go.Proofs.T
open Go Go.Ab Go.RowKit
structure Half (l : List Ed) (k : Nat) (R : List Ed) : Prop where
 len : R.length = l.length
 at' : ∀ q, q < l.length → R[q]? = if q < k ∨ l.length - k ≤ q then l[l.length - 1 - q]? else l[q]?
theorem Half.zero (l : List Ed) : Half l 0 l := ⟨rfl, fun q hq => by rw [if_neg (by omega)]⟩
theorem Half.done {l : List Ed} {k : Nat} {R : List Ed} (h : Half l k R) (hk : l.length ≤ 2 * k + 1) (hk2 : k ≤ l.length) : R = l.reverse := by
 refine List.ext_getElem? fun q => ?_
 by_cases hq : q < l.length
 ·rw [h.at' q hq, List.getElem?_reverse hq]
  split
  ·rfl
  ·congr 1
   omega
 ·rw [List.getElem?_eq_none (by rw [h.len]; omega), List.getElem?_eq_none (by simp; omega)]
theorem Half.next {l : List Ed} {k : Nat} {R : List Ed} (h : Half l k R) (hk : k < l.length - 1 - k) {X Y : Ed} (hX : R[k]? = some X) (hY : R[l.length - 1 - k]? = some Y) : Half l (k + 1) ((R.set k Y).set (l.length - 1 - k) X) := by
 have e1 : l[l.length - 1 - k]? = some Y := by
  rw [h.at' _ (by omega), if_neg (by omega)] at hY
  exact hY
 have e2 : l[k]? = some X := by
  rw [h.at' _ (by omega), if_neg (by omega)] at hX
  exact hX
 refine ⟨by rw [List.length_set, List.length_set]; exact h.len, fun q hq => ?_⟩
 by_cases h1 : q = l.length - 1 - k
 ·subst h1
  rw [List.getElem?_set_self (by rw [List.length_set, h.len]; omega), if_pos (by omega), show l.length - 1 - (l.length - 1 - k) = k by omega, e2]
 ·rw [List.getElem?_set_ne (Ne.symm h1)]
  by_cases h2 : q = k
  ·subst h2
   rw [List.getElem?_set_self (by rw [h.len]; omega), if_pos (by omega), e1]
  ·rw [List.getElem?_set_ne (Ne.symm h2), h.at' q hq]
   by_cases h3 : q < k ∨ l.length - k ≤ q
   ·rw [if_pos h3, if_pos (by omega)]
   ·rw [if_neg h3, if_neg (by omega)]
set_option maxHeartbeats 1000000 in
set_option maxRecDepth 100000 in
theorem reverse_calls (l : List Ed) (hl : l.length ≤ 2000000) (n : Nm) (g d : Nat) : ACalls E 36 [.own n l.length] [(n, .arr 78 7 (l.map encEd))] g d (.tup []) [(n, .arr 78 7 (l.reverse.map encEd))] := by
 refine acalls_of_awp (fn := Tryz.f36) (N := 28) Tryz.call36 Tryz.func36 rfl rfl (by simp) ?_
 simp only [go_sem]
 refine awp_seq_k (fun K1 hK1 => ?_)
 refine awp_plain 5 (by kernel_rfl) rfl (fun g0 hg0 => ?_)
 simp only [go_sem]
 try simp (disch := omega) only [wrapN]
 refine hK1 _ ?_
 refine awp_block ?_
 refine awp_loop (fun m st => ∃ (k : Nat) (R : List Ed), k ≤ l.length ∧ m = l.length - k ∧ Half l k R ∧ Le { env := [(0, .own n l.length), (2, dN k), (3, dI ((l.length : Int) - 1 - (k : Int)))], σ := [(n, .arr 78 7 (R.map encEd))] } st) l.length ?_ ?_
 ·refine ⟨0, l, Nat.zero_le _, rfl, Half.zero l, le_of ?_⟩
  simp only [go_sem]
  all_goals first | done | exact rfl | exact ⟨rfl, rfl⟩ | trivial | omega | (refine ⟨rfl, ?_⟩; omega)
 ·rintro m st ⟨k, R, hk, rfl, hH, hle⟩
  refine awp_keep hle ?_
  clear hle
  have hRl := hH.len
  refine awp_seq_k (fun K2 hK2 => ?_)
  refine awp_seq_k (fun K3 hK3 => ?_)
  by_cases hlt : (k : Int) < (l.length : Int) - 1 - (k : Int)
  ·obtain ⟨j, hj⟩ : ∃ j : Nat, j = l.length - 1 - k := ⟨_, rfl⟩
   have hji : (l.length : Int) - 1 - (k : Int) = (j : Int) := by omega
   have hkj : k < j := by omega
   have hkR : k < R.length := by omega
   have hjR : j < R.length := by omega
   have hgk := getM (f := encEd) hkR
   have hgj := getM (f := encEd) hjR
   have hX : R[k]? = some R[k] := List.getElem?_eq_getElem hkR
   have hY : R[j]? = some R[j] := List.getElem?_eq_getElem hjR
   have hnext := Half.next hH (by omega) hX (by rw [← hj]; exact hY)
   rw [← hj] at hnext
   generalize R[k] = X at *
   generalize R[j] = Y at *
   have hjS : j < (R.set k Y).length := by rw [List.length_set]; exact hjR
   have hgS := getM (f := encEd) hjS
   rw [List.getElem_set_ne (by omega)] at hgS
   refine awp_plain 3 (by kernel_rfl) rfl (fun g1 hg1 => ?_)
   simp only [go_sem, hlt, decide_true]
   refine hK3 _ ?_
   refine awp_t rfl ?_
   refine awp_skip ?_
   refine hK2 _ ?_
   refine awp_seq_k (fun K4 hK4 => ?_)
   refine awp_block ?_
   refine awp_mid2 14 13 n (.arr 78 7 ((R.set k Y).map encEd)) [0, 0, 0, 0, 0, 0, 48, 112, 0, 0, 768, 1792, 4083, 8179, 16383, 32767] (by kernel_rfl) (by kernel_rfl) (by kernel_rfl) (by kernel_rfl) rfl ?_
   simp only [go_sem]
   intro g3 hg3 ops3 KR3 hops3 hKR3
   refine xrunA_eval 2 hops3 rfl rfl rfl ?_
   simp only [go_sem]
   refine xrun_eval 2 hops3 rfl rfl ?_
   simp only [go_sem]
   refine xrunA_eval 9 hops3 rfl rfl rfl ?_
   simp only [go_sem, hji, hkR, hjR, hgk, hgj]
   refine xrun_store rfl rfl rfl rfl ?_ ?_
   ·simp only [go_sem, hgk, List.map_set]
    try rfl
   refine xrun_done ⟨rfl, ?_⟩
   refine aops_last 2 hops3 ?_
   simp only [go_sem, hjR, hgS, List.length_set]
   refine hKR3 _ ?_
   refine hK4 _ ?_
   refine awp_plain 6 (by kernel_rfl) rfl (fun g2 hg2 => ?_)
   simp only [go_sem]
   try simp (disch := omega) only [wrapN]
   refine ⟨_, ?_, k + 1, _, by omega, rfl, hnext, le_of ?_⟩
   ·omega
   simp only [go_sem, List.map_set]
   all_goals first | done | exact rfl | exact ⟨rfl, rfl⟩ | trivial | omega
  ·refine awp_plain 3 (by kernel_rfl) rfl (fun g1 hg1 => ?_)
   simp only [go_sem, hlt, decide_false]
   refine hK3 _ ?_
   refine awp_f rfl ?_
   refine awp_exit ?_
   have hR := hH.done (by omega) hk
   subst hR
   show Go.Ab.Ends E _ _ _ _ _ _
   refine ends_keep rfl (by simp [go_sem]) ?_
   simp only [go_sem]
   exact Co.refl _
end Go.Proofs.T
namespace Go.Proofs.T
open Go Go.Ab Go.RowKit
open Classical in
noncomputable def backP (es : Ms) (a : Nd) : Nat → Nd → List Ed
 | 0, _ => []
 | f + 1, n => if n = a then [] else match lookM es n with | some e => e :: backP es a f e.frm | none => []
def Link : Nd → List Ed → Nd → Prop
 | n, [], a => n = a
 | n, e :: r, a => e.to = n ∧ Link e.frm r a
def At (es : Ms) (f : Nat) (a n : Nd) : Prop := n = a ∨ ∃ i, i < f ∧ (keysM es)[i]? = some n
theorem look_at {l : List Ed} {a : Nd} {es : Ms} (h : Bfs l a es) {i : Nat} {n : Nd} (hi : (keysM es)[i]? = some n) : ∃ e, lookM es n = some e ∧ e ∈ l ∧ e.to = n ∧ At es i a e.frm := by
 have hm : n ∈ keysM es := List.mem_of_getElem? hi
 cases hl : lookM es n with
 | none => exact absurd hm ((lookM_none _ _).1 hl)
 | some e =>
  have he := lookM_mem es n e hl
  obtain ⟨h1, h2⟩ := h.to _ he
  refine ⟨e, rfl, h1, h2, ?_⟩
  obtain ⟨j, hj, hje⟩ := List.mem_iff_getElem.1 he
  have hji : j = i := by
   have e1 : (keysM es)[j]? = some n := by
    unfold keysM
    rw [List.getElem?_map, List.getElem?_eq_getElem hj, hje]
    rfl
   obtain ⟨q1, q2⟩ := List.getElem?_eq_some_iff.1 e1
   obtain ⟨q3, q4⟩ := List.getElem?_eq_some_iff.1 hi
   exact (List.getElem_inj h.nodup).1 (q2.trans q4.symm)
  subst hji
  rcases h.back j _ (by rw [List.getElem?_eq_getElem hj, hje]) with h3 | ⟨k, q, hk, hq, h3⟩
  ·exact .inl h3
  ·refine .inr ⟨k, hk, ?_⟩
   unfold keysM
   rw [List.getElem?_map, hq, ← h3]
   rfl
noncomputable def cycL (l : List Ed) : List Ed := match exL l with | [] => [] | e :: _ => e :: (backP (bfsF l e.to) e.to ((bfsF l e.to).length + 1) e.frm).reverse
theorem back_start {l : List Ed} {e : Ed} (h : exB l e = true) : At (bfsF l e.to) (bfsF l e.to).length e.to e.frm := by
 unfold exB at h
 rw [Bool.and_eq_true, Bool.or_eq_true, leadB_iff, eqN_iff] at h
 rcases h.2 with h | h
 ·right
  obtain ⟨i, hi, h3⟩ := List.mem_iff_getElem.1 ((bfsF_mem l e.to e.frm).2 h)
  have : (keysM (bfsF l e.to)).length = (bfsF l e.to).length := by simp [keysM]
  exact ⟨i, by omega, by rw [List.getElem?_eq_getElem hi, h3]⟩
 ·exact .inl h.symm
theorem exL_head {l r : List Ed} {e : Ed} (h : exL l = e :: r) : exB l e = true ∧ e ∈ l := by
 have : e ∈ exL l := by rw [h]; exact List.mem_cons_self
 unfold exL at this
 rw [List.mem_filter] at this
 exact ⟨this.2, this.1⟩
theorem backP_len (es : Ms) (a : Nd) : ∀ (f : Nat) (n : Nd), (backP es a f n).length ≤ f
 | 0, _ => Nat.le_refl _
 | f + 1, n => by
  unfold backP
  split
  ·simp
  ·split
   ·rename_i e _
    have := backP_len es a f e.frm
    simp only [List.length_cons]
    omega
   ·simp
set_option maxHeartbeats 2000000 in
set_option maxRecDepth 100000 in
theorem nCycle_calls (p : Prg) (hp : smPr p) (hE : (prE p).length ≤ 1000000) (g d : Nat) : ACalls E 16 [encPr p] [] g d (slEd (cycL (edP p))) [] := by
 have he := fun g d => nExp_calls p hp hE g d
 have hed : ∀ g d, ACalls E 31 [encPr p] [] g d (slEd (edP p)) [] := fun g d => edges_calls p hp hE g d
 have hl := edP_len hE
 generalize edP p = L at *
 have hs := fun n g r => search_calls L hl n g r
 have hsp := fun n => (bfsF_spec L n).1
 cases hB : exL L with
 | nil =>
  rw [hB] at he
  have hres : cycL L = [] := by unfold cycL; rw [hB]
  refine acalls_of_awp (fn := Tryz.f16) (N := 44) Tryz.call16 Tryz.func16 rfl rfl (by simp) ?_
  simp only [go_sem]
  refine awp_seq_k (fun K1 hK1 => ?_)
  refine awp_plain 2 (by kernel_rfl) rfl (fun g0 hg0 => ?_)
  simp only [go_sem]
  refine hK1 _ ?_
  refine awp_seq_k (fun K2 hK2 => ?_)
  refine awp_ops (by kernel_rfl) rfl (fun g1 hg1 ops1 KR1 hops1 hKR1 => ?_)
  refine aops_eval 1 hops1 ?_
  simp only [go_sem]
  refine aops_pure hops1 rfl rfl rfl (he _ _) (CoL.refl _) ?_
  refine aops_last 1 hops1 ?_
  simp only [go_sem]
  refine hKR1 _ ?_
  refine hK2 _ ?_
  refine awp_seq_k (fun K3 hK3 => ?_)
  refine awp_seq_k (fun K4 hK4 => ?_)
  refine awp_plain 3 (by kernel_rfl) rfl (fun g2 hg2 => ?_)
  simp only [go_sem, List.length_nil, show ((0 : Nat) : Int) = 0 from rfl, decide_true]
  refine hK4 _ ?_
  refine awp_t rfl ?_
  refine awp_seq_k (fun K5 hK5 => ?_)
  refine awp_plain 1 (by kernel_rfl) rfl (fun g3 hg3 => ?_)
  simp only [go_sem]
  refine hK5 _ ?_
  refine awp_ret ?_
  refine ends_ev rfl ?_
  simp only [go_sem]
  exact (by rw [hres]; exact Co.nil false)
 | cons F B =>
  rw [hB] at he
  have hres : cycL L = F :: (backP (bfsF L F.to) F.to ((bfsF L F.to).length + 1) F.frm).reverse := by unfold cycL; rw [hB]
  have hx := exL_head hB
  have hst := back_start hx.1
  have hB2 := hsp F.to
  have hesl := hB2.len
  have hPl := backP_len (bfsF L F.to) F.to ((bfsF L F.to).length + 1) F.frm
  obtain ⟨BB, hBB⟩ : ∃ BB, BB = F :: B := ⟨_, rfl⟩
  rw [← hBB] at he
  have hpos : ¬ (BB.length : Int) = 0 := by rw [hBB]; simp only [List.length_cons]; omega
  have hhead : at? (BB.map encEd) 0 = some (encEd F) := by rw [hBB]; rfl
  refine acalls_of_awp (fn := Tryz.f16) (N := 44) Tryz.call16 Tryz.func16 rfl rfl (by simp) ?_
  simp only [go_sem]
  refine awp_seq_k (fun K1 hK1 => ?_)
  refine awp_plain 2 (by kernel_rfl) rfl (fun g0 hg0 => ?_)
  simp only [go_sem]
  refine hK1 _ ?_
  refine awp_seq_k (fun K2 hK2 => ?_)
  refine awp_ops (by kernel_rfl) rfl (fun g1 hg1 ops1 KR1 hops1 hKR1 => ?_)
  refine aops_eval 1 hops1 ?_
  simp only [go_sem]
  refine aops_pure hops1 rfl rfl rfl (he _ _) (CoL.refl _) ?_
  refine aops_last 1 hops1 ?_
  simp only [go_sem]
  refine hKR1 _ ?_
  refine hK2 _ ?_
  refine awp_seq_k (fun K3 hK3 => ?_)
  refine awp_seq_k (fun K4 hK4 => ?_)
  refine awp_plain 3 (by kernel_rfl) rfl (fun g2 hg2 => ?_)
  simp only [go_sem, hpos, decide_false]
  refine hK4 _ ?_
  refine awp_f rfl ?_
  refine awp_skip ?_
  refine hK3 _ ?_
  refine awp_seq_k (fun K5 hK5 => ?_)
  refine awp_plain 5 (by kernel_rfl) rfl (fun g4 hg4 => ?_)
  simp only [go_sem, hhead]
  refine hK5 _ ?_
  refine awp_seq_k (fun K6 hK6 => ?_)
  refine awp_plain 1 (by kernel_rfl) rfl (fun g5 hg5 => ?_)
  simp only [go_sem]
  refine hK6 _ ?_
  refine awp_seq_k (fun K7 hK7 => ?_)
  refine awp_nil 5 78 7 rfl fun gn hgn => ?_
  have hn4 : gn ≠ g4 := fresh_g hgn 4 0 (by simp [go_sem])
  have hn0 : gn ≠ g0 := fresh_g hgn 1 0 (by simp [go_sem])
  have hn4_g0 : g4 ≠ g0 := fresh_g hg4 1 0 (by simp [go_sem])
  refine awp_any 5 (by kernel_rfl) (by kernel_rfl) rfl (fun g6 hg6 ops6 KR6 hops6 hKR6 => ?_)
  refine qrun_eval 1 hops6 ?_
  simp only [go_sem, hn4_g0, hn0]
  refine qrun_pure hops6 rfl rfl rfl (hed _ _) (CoL.refl _) rfl ?_
  refine qrun_eval 2 hops6 ?_
  simp only [go_sem, Ne.symm hn4_g0, hn4]
  refine qrun_pure hops6 rfl rfl rfl (hs F.to _ _) (CoL.refl _) rfl ?_
  refine qrun_last 0 hops6 ?_
  simp only [go_sem]
  refine aops_last 1 hops6 ?_
  simp only [go_sem]
  refine hKR6 _ ?_
  refine hK7 _ ?_
  refine awp_seq_k (fun K8 hK8 => ?_)
  refine awp_seq_k (fun K9 hK9 => ?_)
  generalize bfsF L F.to = es at *
  refine awp_plain 4 (by kernel_rfl) rfl (fun g7 hg7 => ?_)
  simp only [go_sem, Ne.symm hn4_g0, hn4]
  refine hK9 _ ?_
  refine awp_block ?_
  have hn7_g4 : g7 ≠ g4 := fresh_g hg7 4 0 (by simp [go_sem, hn4])
  have hn7_gn : g7 ≠ gn := fresh_g hg7 0 0 (by simp [go_sem])
  refine awp_loop (fun m st => ∃ (a i b f : Nat) (n : Nd) (R : List Ed), a ≠ g4 ∧ b ≠ g4 ∧ a ≠ b ∧ m = f ∧ At es f F.to n ∧ R ++ backP es F.to (f + 1) n = backP es F.to (es.length + 1) F.frm ∧
    Le { env := [(4, .ptr ⟨g4, 4, 0⟩ 0), (5, .own ⟨a, i, 0⟩ R.length), (6, .fmap ksM (encM es)), (7, .ptr ⟨b, 7, 0⟩ 0)], σ := [(⟨g4, 4, 0⟩, .box 78 (edC F)), (⟨b, 7, 0⟩, .box 37 (ndC n)), (⟨a, i, 0⟩, .arr 78 7 (R.map encEd))] } st) es.length ?_ ?_
  ·refine ⟨gn, 0, g7, es.length, F.frm, [], hn4, hn7_g4, Ne.symm hn7_gn, rfl, hst, List.nil_append _, le_of ?_⟩
   simp only [go_sem, List.map_nil, List.length_nil, Ne.symm hn4_g0, hn4, Ne.symm hn4, Ne.symm hn0, hn7_g4, Ne.symm hn7_g4, hn7_gn, Ne.symm hn7_gn]
   all_goals first | done | exact rfl | exact ⟨rfl, rfl⟩ | trivial | omega
  ·rintro m st ⟨a, i, b, f, n, R, ha, hb, hab, hm, hat, hRb, hle⟩
   subst hm
   refine awp_keep hle ?_
   clear hle
   have hRl : R.length ≤ 1000001 := by
    have := congrArg List.length hRb
    rw [List.length_append] at this
    omega
   refine awp_seq_k (fun K10 hK10 => ?_)
   refine awp_seq_k (fun K11 hK11 => ?_)
   by_cases hna : n = F.to
   ·have e1 := congrArg Nd.method hna
    have e2 := congrArg Nd.name hna
    have e3 := congrArg Nd.idx hna
    have hfin : R = backP es F.to (es.length + 1) F.frm := by
     rw [← hRb]
     unfold backP
     rw [if_pos hna, List.append_nil]
    refine awp_plain 4 (by kernel_rfl) rfl (fun g8 hg8 => ?_)
    simp only [go_sem, e1, e2, e3, decide_true, and_self, Bool.not_true, ha, hb, Ne.symm hb, hab]
    refine hK11 _ ?_
    refine awp_f rfl ?_
    refine awp_exit ?_
    refine hK8 _ ?_
    refine awp_seq_k (fun K12 hK12 => ?_)
    refine awp_ops (by kernel_rfl) rfl (fun g13 hg13 ops13 KR13 hops13 hKR13 => ?_)
    refine aops_eval 1 hops13 ?_
    simp only [go_sem]
    refine aops_call hops13 rfl rfl rfl (reverse_calls R (by omega) ⟨a, i, 0⟩ _ _) (CoL.refl _) (by simp [go_sem, Ne.symm ha, Ne.symm hab]) ?_
    refine aops_last 0 hops13 ?_
    simp only [go_sem, Ne.symm ha, Ne.symm hab]
    refine hKR13 _ ?_
    refine hK12 _ ?_
    refine awp_seq_k (fun K13 hK13 => ?_)
    refine awp_frz ⟨a, i, 0⟩ ?_
    simp only [go_sem, Ne.symm ha, Ne.symm hab]
    refine awp_ops (by kernel_rfl) rfl (fun g14 hg14 ops14 KR14 hops14 hKR14 => ?_)
    refine aops_eval 1 hops14 ?_
    simp only [go_sem, hb]
    refine aops_lit hops14 rfl rfl rfl es47 sz78 ([encEd F]) (by simp only [go_sem]) ?_
    simp only [go_sem]
    refine aops_eval 1 hops14 ?_
    simp only [go_sem]
    refine aops_app hops14 rfl rfl rfl rfl rfl es47 sz78 by78 ze78 rfl (by decide) ?_
    simp only [go_sem, List.length_reverse, okRowsE]
    first | refine ⟨⟨by omega, by omega⟩, ?_⟩ | skip
    refine aops_last 1 hops14 ?_
    simp only [go_sem]
    refine hKR14 _ ?_
    refine hK13 _ ?_
    refine awp_ret ?_
    refine ret_frz ⟨g14, 43, 0⟩ ?_
    simp only [go_sem]
    refine ends_ev rfl ?_
    simp only [go_sem]
    exact Co.of_eq (by rw [hres, ← hfin]; rfl)
   ·have hne := ndEq hna
    obtain ⟨k, hkm, hk⟩ := hat.resolve_left hna
    obtain ⟨e, hle, _, _, h3⟩ := look_at hB2 hk
    have hnext : (R ++ [e]) ++ backP es F.to (m - 1 + 1) e.frm = backP es F.to (es.length + 1) F.frm := by
     rw [← hRb, List.append_assoc]
     congr 1
     rw [show m - 1 + 1 = m by omega]
     conv => rhs; rw [backP, if_neg hna, hle]
     rfl
    have hat2 : At es (m - 1) F.to e.frm := h3.imp id fun ⟨j, h4, h5⟩ => ⟨j, by omega, h5⟩
    refine awp_plain 4 (by kernel_rfl) rfl (fun g8 hg8 => ?_)
    simp only [go_sem, hne, decide_false, Bool.not_false, ha, hb, Ne.symm hb, hab]
    refine hK11 _ ?_
    refine awp_t rfl ?_
    refine awp_skip ?_
    refine hK10 _ ?_
    refine awp_seq_k (fun K14 hK14 => ?_)
    refine awp_block ?_
    refine awp_ops (by kernel_rfl) rfl (fun g10 hg10 ops10 KR10 hops10 hKR10 => ?_)
    refine aops_eval 5 hops10 ?_
    simp only [go_sem, mget_m3, Nd.eta, hle, Option.map_some, Ne.symm hb, hab]
    refine aops_app hops10 rfl rfl rfl rfl rfl es47 sz78 by78 ze78 rfl (by decide) ?_
    simp only [go_sem, Ne.symm ha, Ne.symm hab]
    first | refine ⟨⟨by omega, by omega⟩, ?_⟩ | skip
    have hn10_g4 : g10 ≠ g4 := fresh_g hg10 4 0 (by simp [go_sem])
    have hn10_b : g10 ≠ b := fresh_g hg10 7 0 (by simp [go_sem, Ne.symm hb])
    refine aops_last 1 hops10 ?_
    simp only [go_sem]
    refine hKR10 _ ?_
    refine hK14 _ ?_
    refine awp_seq_k (fun K15 hK15 => ?_)
    refine awp_seq_k (fun K16 hK16 => ?_)
    refine awp_plain 1 (by kernel_rfl) rfl (fun g11 hg11 => ?_)
    simp only [go_sem, Ne.symm hb, hn10_b]
    refine hK16 _ ?_
    refine awp_plain 2 (by kernel_rfl) rfl (fun g12 hg12 => ?_)
    simp only [go_sem]
    refine hK15 _ ?_
    have hn12_g4 : g12 ≠ g4 := fresh_g hg12 4 0 (by simp [go_sem, hn10_g4])
    have hn12_b : g12 ≠ b := fresh_g hg12 7 0 (by simp [go_sem, Ne.symm hb, hn10_b])
    have hn12_g10 : g12 ≠ g10 := fresh_g hg12 36 0 (by simp [go_sem])
    refine awp_plain 5 (by kernel_rfl) rfl (fun g9 hg9 => ?_)
    simp only [go_sem, mget_m3, Nd.eta, hle, Option.map_some, Ne.symm hn12_g4, Ne.symm hn12_b, Ne.symm hn12_g10]
    refine ⟨_, ?_, g10, 36, g12, m - 1, e.frm, R ++ [e], hn10_g4, hn12_g4, Ne.symm hn12_g10, rfl, hat2, hnext, le_of ?_⟩
    ·omega
    simp only [go_sem, List.map_append, List.length_append, List.length_singleton, hb, hn10_g4, Ne.symm hn10_g4, Ne.symm hn10_b, hn12_g4, Ne.symm hn12_g4, Ne.symm hn12_b, hn12_g10, Ne.symm hn12_g10]
    all_goals first | done | exact rfl | exact ⟨rfl, rfl⟩ | trivial | omega
end Go.Proofs.T
