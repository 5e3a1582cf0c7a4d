/- A part of the proof, under no conditions of its own: A5. -/
import Derived.Test.YtmmfjicebmeamaaA4
namespace Go.Proofs.T
open Go Go.Ab Go.RowKit

/-! ## Substituting -/

/- All lengths are small. -/
mutual
def smTy : Ty → Prop
  | .mk n a _ => n.size ≤ 1000000 ∧ a.length ≤ 1000000 ∧ smTys a
def smTys : List Ty → Prop
  | [] => True
  | t :: r => smTy t ∧ smTys r
end

theorem smTys_iff : ∀ l, smTys l ↔ ∀ t ∈ l, smTy t
  | [] => by simp [smTys]
  | t :: r => by simp [smTys, smTys_iff r]

theorem smTy_iff (t : Ty) : smTy t ↔ t.name.size ≤ 1000000 ∧ t.args.length ≤ 1000000 ∧ ∀ x ∈ t.args, smTy x := by
  cases t
  simp [smTy, smTys_iff]

theorem smTy.ok (t : Ty) : smTy t → okTy t := by
  revert t
  refine Ty.ind fun t ih h => ?_
  obtain ⟨h1, h2, h3⟩ := (smTy_iff t).1 h
  exact (okTy_iff t).2 ⟨by omega, by omega, fun x hx => ih x hx (h3 x hx)⟩

def isS (n : Str) (x : Str) : Bool := decide (x = n)
def look (ns : List Str) (us : List Ty) (n : Str) : Option Ty := (ns.findIdx? (isS n)).bind fun i => us[i]?

mutual
def substTy (ns : List Str) (us : List Ty) : Ty → Ty
  | .mk n xs p => match xs.isEmpty, look ns us n with
    | true, some t => .mk t.name t.args p
    | _, _ => .mk n (substTys ns us xs) p
def substTys (ns : List Str) (us : List Ty) : List Ty → List Ty
  | [] => []
  | t :: r => substTy ns us t :: substTys ns us r
end
theorem substTys_eq (ns : List Str) (us : List Ty) : ∀ l, substTys ns us l = l.map (substTy ns us)
  | [] => by simp [substTys]
  | t :: r => by simp [substTys, substTys_eq ns us r]
theorem substTy_eq (ns : List Str) (us : List Ty) (t : Ty) : substTy ns us t = match t.args.isEmpty, look ns us t.name with
    | true, some u => .mk u.name u.args t.pos
    | _, _ => .mk t.name (t.args.map (substTy ns us)) t.pos := by
  cases t
  rw [substTy]
  simp only [substTys_eq, Ty.name_mk, Ty.args_mk, Ty.pos_mk]

theorem substTy_nil : ∀ t : Ty, substTy [] [] t = t := by
  refine Ty.ind fun t ih => ?_
  rw [substTy_eq]
  have : t.args.map (substTy [] []) = t.args := by
    conv => rhs; rw [← List.map_id t.args]
    exact List.map_congr_left fun x hx => by rw [ih x hx]; rfl
  simp [look, this, Ty.eta]

theorem smTy_subst {ns : List Str} {us : List Ty} (ha : ∀ x ∈ us, smTy x) (t : Ty) : smTy t → smTy (substTy ns us t) := by
  revert t
  refine Ty.ind fun t ih h => ?_
  obtain ⟨h1, h2, h3⟩ := (smTy_iff t).1 h
  rw [substTy_eq]
  split
  · rename_i u _ hu
    have hm : u ∈ us := by
      unfold look at hu
      cases hf : ns.findIdx? (isS t.name) with
      | none => rw [hf] at hu; cases hu
      | some i => rw [hf] at hu; exact List.mem_of_getElem? hu
    have := (smTy_iff u).1 (ha u hm)
    exact (smTy_iff _).2 this
  · refine (smTy_iff _).2 ⟨h1, by simpa using h2, fun x hx => ?_⟩
    simp only [Ty.args_mk, List.mem_map] at hx
    obtain ⟨y, hy, rfl⟩ := hx
    exact ih y hy (h3 y hy)

def optI : Option Nat → Int
  | some k => k
  | none => -1
def optD (o : Option Nat) : D := dI (optI o)

theorem findD {α : Type} (p : α → Bool) (l : List α) (k : Nat) (h : k < l.length) : (l.drop k).findIdx? p = if p l[k] then some 0 else ((l.drop (k + 1)).findIdx? p).map (· + 1) := by
  rw [dropC l k h, List.findIdx?_cons]

theorem index_calls (l : List Str) (n : Str) (hl : l.length ≤ 9223372036854775807) (g d : Nat) : ACalls E 57 [slS l, encS n] [] g d (optD (l.findIdx? (isS n))) [] := by
  refine acalls_of_awp (fn := Try.f57) (N := 19) Try.call57 Try.func57 rfl rfl (by simp) ?_
  simp only [go_sem]
  refine awp_seq_k (fun K1 hK1 => ?_)
  refine awp_plain 1 (by kernel_rfl) rfl (fun g0 hg0 => ?_)
  simp only [go_sem]
  refine hK1 _ ?_
  refine awp_seq_k (fun K2 hK2 => ?_)
  refine awp_seq_k (fun K3 hK3 => ?_)
  refine awp_plain 3 (by kernel_rfl) rfl (fun g1 hg1 => ?_)
  simp only [go_sem]
  refine hK3 _ ?_
  refine awp_block ?_
  refine awp_loop (fun m s => ∃ k, k ≤ l.length ∧ m = l.length - k ∧ l.findIdx? (isS n) = ((l.drop k).findIdx? (isS n)).map (· + k) ∧
      Le { env := [(0, slS l), (1, encS n), (6, slS l), (7, dN l.length), (8, dN k)], σ := [] } s) l.length ?_ ?_
  · refine ⟨0, Nat.zero_le _, rfl, by simp, le_of ?_⟩
    simp only [go_sem]
    trivial
  · rintro m s ⟨k, hk, rfl, hf, hle⟩
    refine awp_keep hle ?_
    clear hle
    by_cases h : k < l.length
    · rw [findD _ _ _ h] at hf
      refine awp_seq_k (fun K4 hK4 => ?_)
      refine awp_plain 1 (by kernel_rfl) rfl (fun g2 hg2 => ?_)
      simp only [go_sem, h]
      refine hK4 _ ?_
      refine awp_seq_k (fun K5 hK5 => ?_)
      refine awp_t rfl ?_
      refine awp_skip ?_
      refine hK5 _ ?_
      refine awp_seq_k (fun K6 hK6 => ?_)
      refine awp_block ?_
      refine awp_seq_k (fun K7 hK7 => ?_)
      refine awp_plain 2 (by kernel_rfl) rfl (fun g3 hg3 => ?_)
      simp only [go_sem]
      refine hK7 _ ?_
      refine awp_seq_k (fun K8 hK8 => ?_)
      by_cases he : l[k] = n
      · rw [if_pos (by simp [isS, he])] at hf
        refine awp_plain 6 (by kernel_rfl) rfl (fun g4 hg4 => ?_)
        simp only [go_sem, getM h, he]
        refine hK8 _ ?_
        refine awp_t rfl ?_
        refine awp_seq_k (fun K9 hK9 => ?_)
        refine awp_plain 2 (by kernel_rfl) rfl (fun g5 hg5 => ?_)
        simp only [go_sem]
        refine hK9 _ ?_
        refine awp_ret ?_
        rw [hf]
        refine ends_ev rfl ?_
        simp only [go_sem]
        exact Co.of_eq (by simp [optD, optI])
      · rw [if_neg (by simp [isS, he])] at hf
        have he' : ¬ n = l[k] := fun h => he h.symm
        refine awp_plain 6 (by kernel_rfl) rfl (fun g4 hg4 => ?_)
        simp only [go_sem, getM h, he']
        refine hK8 _ ?_
        refine awp_f rfl ?_
        refine awp_skip ?_
        refine hK6 _ ?_
        refine awp_plain 2 (by kernel_rfl) rfl (fun g6 hg6 => ?_)
        simp only [go_sem]
        try simp (disch := omega) only [wrapN]
        refine ⟨_, ?_, k + 1, h, rfl, ?_, le_of ?_⟩
        · omega
        · rw [hf]; simp [Option.map_map, Function.comp_def, Nat.add_comm, Nat.add_left_comm]
        simp only [go_sem]
        omega
    · rw [dropN l k (by omega)] at hf
      refine awp_seq_k (fun K10 hK10 => ?_)
      refine awp_plain 1 (by kernel_rfl) rfl (fun g2 hg2 => ?_)
      simp only [go_sem, h]
      refine hK10 _ ?_
      refine awp_seq_k (fun K11 hK11 => ?_)
      refine awp_f rfl ?_
      refine awp_exit ?_
      refine hK2 _ ?_
      refine awp_seq_k (fun K12 hK12 => ?_)
      refine awp_plain 1 (by kernel_rfl) rfl (fun g7 hg7 => ?_)
      simp only [go_sem]
      refine hK12 _ ?_
      refine awp_ret ?_
      rw [hf]
      refine ends_ev rfl ?_
      simp only [go_sem]
      exact Co.of_eq (by simp [optD, optI])

theorem all_calls (f : Ty → Ty) (ns : List Str) (us l : List Ty) (hl : l.length ≤ 1000000) (h : ∀ t ∈ l, ∀ g d, ACalls E 42 [encTy t, slS ns, slTy us] [] g d (encTy (f t)) []) (g d : Nat) :
    ACalls E 58 [slTy l, slS ns, slTy us] [] g d (slTy (l.map f)) [] := by
  refine acalls_of_awp (fn := Try.f58) (N := 25) Try.call58 Try.func58 rfl rfl (by simp) ?_
  simp only [go_sem]
  refine awp_seq_k (fun K1 hK1 => ?_)
  refine awp_plain 1 (by kernel_rfl) rfl (fun g0 hg0 => ?_)
  simp only [go_sem]
  refine hK1 _ ?_
  refine awp_seq_k (fun K2 hK2 => ?_)
  refine awp_plain 1 (by kernel_rfl) rfl (fun g1 hg1 => ?_)
  simp only [go_sem]
  refine hK2 _ ?_
  refine awp_seq_k (fun K3 hK3 => ?_)
  refine awp_seq_k (fun K4 hK4 => ?_)
  refine awp_plain 3 (by kernel_rfl) rfl (fun g2 hg2 => ?_)
  simp only [go_sem]
  refine hK4 _ ?_
  refine awp_block ?_
  refine awp_nil 7 34 3 rfl fun gn hgn => ?_
  refine awp_loop (fun m s => ∃ k a i, k ≤ l.length ∧ m = l.length - k ∧
      Le { env := [(1, slS ns), (2, slTy us), (10, slTy l), (11, dN l.length), (12, dN k), (7, .own ⟨a, i, 0⟩ k)], σ := [(⟨a, i, 0⟩, .arr 34 3 ((l.take k).map fun t => encTy (f t)))] } s) l.length ?_ ?_
  · refine ⟨0, gn, 0, Nat.zero_le _, rfl, le_of ?_⟩
    simp only [go_sem]
    trivial
  · rintro m s ⟨k, a, i, hk, rfl, hle⟩
    refine awp_keep hle ?_
    clear hle
    by_cases hlt : k < l.length
    · refine awp_seq_k (fun K5 hK5 => ?_)
      refine awp_plain 1 (by kernel_rfl) rfl (fun g3 hg3 => ?_)
      simp only [go_sem, hlt]
      refine hK5 _ ?_
      refine awp_seq_k (fun K6 hK6 => ?_)
      refine awp_t rfl ?_
      refine awp_skip ?_
      refine hK6 _ ?_
      refine awp_seq_k (fun K7 hK7 => ?_)
      refine awp_block ?_
      refine awp_seq_k (fun K8 hK8 => ?_)
      refine awp_plain 4 (by kernel_rfl) rfl (fun g4 hg4 => ?_)
      simp only [go_sem, getM hlt]
      refine hK8 _ ?_
      have hn4_a : g4 ≠ a := fresh_g hg4 i 0 (by simp [go_sem])
      refine awp_ops (by kernel_rfl) rfl (fun g5 hg5 ops5 KR5 hops5 hKR5 => ?_)
      refine aops_eval 4 hops5 ?_
      simp only [go_sem, Ne.symm hn4_a]
      refine aops_pure hops5 rfl rfl rfl (h _ (List.getElem_mem hlt) _ _) (CoL.refl _) ?_
      refine aops_eval 1 hops5 ?_
      simp only [go_sem]
      refine aops_app hops5 rfl rfl rfl rfl rfl es32 sz34 by34 ze34 rfl (by decide) ?_
      simp only [go_sem, List.length_take_of_le (Nat.le_of_lt hlt), hn4_a]
      first | refine ⟨⟨by omega, by omega⟩, ?_⟩ | skip
      refine aops_last 1 hops5 ?_
      simp only [go_sem]
      refine hKR5 _ ?_
      refine hK7 _ ?_
      refine awp_plain 2 (by kernel_rfl) rfl (fun g6 hg6 => ?_)
      simp only [go_sem]
      try simp (disch := omega) only [wrapN]
      refine ⟨_, ?_, k + 1, g5, 22, hlt, rfl, le_of ?_⟩
      · omega
      simp only [go_sem, ← takeM _ hlt]
      omega
    · refine awp_seq_k (fun K9 hK9 => ?_)
      refine awp_plain 1 (by kernel_rfl) rfl (fun g3 hg3 => ?_)
      simp only [go_sem, hlt]
      refine hK9 _ ?_
      refine awp_seq_k (fun K10 hK10 => ?_)
      refine awp_f rfl ?_
      refine awp_exit ?_
      refine hK3 _ ?_
      refine awp_seq_k (fun K11 hK11 => ?_)
      refine awp_plain 2 (by kernel_rfl) rfl (fun g7 hg7 => ?_)
      simp only [go_sem]
      refine hK11 _ ?_
      refine awp_ret ?_
      have : k = l.length := by omega
      subst this
      refine ret_frz ⟨a, i, 0⟩ ?_
      simp only [go_sem]
      refine ends_ev rfl ?_
      simp only [go_sem]
      exact Co.of_eq (by simp [Function.comp_def])

theorem subst_step (ns : List Str) (us : List Ty) (hns : ns.length ≤ 1000000) (hc : ∀ t ∈ us, ∀ g d, ACalls E 33 [encTy t] [] g d (encTy t) []) (t : Ty) (ht : smTy t)
    (ih : ∀ x ∈ t.args, ∀ g d, ACalls E 42 [encTy x, slS ns, slTy us] [] g d (encTy (substTy ns us x)) []) (g d : Nat) :
    ACalls E 42 [encTy t, slS ns, slTy us] [] g d (encTy (substTy ns us t)) [] := by
  obtain ⟨hs1, hs2, hs3⟩ := (smTy_iff t).1 ht
  have key : (t.args.length = 0 ∧ ∃ i u, ns.findIdx? (isS t.name) = some i ∧ ∃ h : i < us.length, us[i] = u ∧ substTy ns us t = .mk u.name u.args t.pos) ∨
      ((t.args.length = 0 → ∀ i, ns.findIdx? (isS t.name) = some i → ¬ i < us.length) ∧ substTy ns us t = .mk t.name (t.args.map (substTy ns us)) t.pos) := by
    rw [substTy_eq]
    unfold look
    cases hx : t.args with
    | nil =>
      cases hf : ns.findIdx? (isS t.name) with
      | none => right; simp
      | some i =>
        by_cases hi : i < us.length
        · left; simp [hi]
        · right; simp [hi]; omega
    | cons y ys => right; simp
  refine acalls_of_awp (fn := Try.f42) (N := 43) Try.call42 Try.func42 rfl rfl (by simp) ?_
  simp only [go_sem]
  refine awp_seq_k (fun K1 hK1 => ?_)
  refine awp_plain 2 (by kernel_rfl) rfl (fun g0 hg0 => ?_)
  simp only [go_sem]
  refine hK1 _ ?_
  refine awp_seq_k (fun K2 hK2 => ?_)
  refine awp_seq_k (fun K3 hK3 => ?_)
  refine awp_ops (by kernel_rfl) rfl (fun g1 hg1 ops1 KR1 hops1 hKR1 => ?_)
  refine aops_eval 3 hops1 ?_
  simp only [go_sem]
  refine aops_pure hops1 rfl rfl rfl (index_calls _ _ (by omega) _ _) (CoL.refl _) ?_
  refine aops_last 1 hops1 ?_
  simp only [go_sem]
  refine hKR1 _ ?_
  refine hK3 _ ?_
  refine awp_seq_k (fun K4 hK4 => ?_)
  rcases key with ⟨k1, i, u, k2, k3, k4, k5⟩ | ⟨k1, k2⟩
  · rw [k2]
    have h0 : (0 : Int) ≤ i := by omega
    refine awp_plain 14 (by kernel_rfl) rfl (fun g2 hg2 => ?_)
    simp only [go_sem, optD, optI, k1, Int.ofNat_eq_zero, decide_true, h0, k3]
    refine hK4 _ ?_
    refine awp_t rfl ?_
    refine awp_seq_k (fun K5 hK5 => ?_)
    refine awp_ops (by kernel_rfl) rfl (fun g3 hg3 ops3 KR3 hops3 hKR3 => ?_)
    refine aops_eval 4 hops3 ?_
    simp only [go_sem, getM k3]
    refine aops_pure hops3 rfl rfl rfl (hc _ (List.getElem_mem k3) _ _) (CoL.refl _) ?_
    refine aops_last 2 hops3 ?_
    simp only [go_sem]
    refine hKR3 _ ?_
    refine hK5 _ ?_
    refine awp_seq_k (fun K6 hK6 => ?_)
    refine awp_plain 4 (by kernel_rfl) rfl (fun g4 hg4 => ?_)
    simp only [go_sem]
    refine hK6 _ ?_
    refine awp_seq_k (fun K7 hK7 => ?_)
    refine awp_plain 2 (by kernel_rfl) rfl (fun g5 hg5 => ?_)
    simp only [go_sem]
    refine hK7 _ ?_
    refine awp_ret ?_
    rw [k5, ← k4]
    refine ends_ev rfl ?_
    simp only [go_sem]
    exact Co.refl _
  · by_cases h0 : t.args.length = 0
    · cases hf : ns.findIdx? (isS t.name) with
      | none =>
        refine awp_plain 14 (by kernel_rfl) rfl (fun g2 hg2 => ?_)
        simp only [go_sem, optD, optI, h0, Int.ofNat_eq_zero]
        refine hK4 _ ?_
        refine awp_f rfl ?_
        refine awp_skip ?_
        refine hK2 _ ?_
        refine awp_seq_k (fun K8 hK8 => ?_)
        refine awp_ops (by kernel_rfl) rfl (fun g6 hg6 ops6 KR6 hops6 hKR6 => ?_)
        refine aops_eval 4 hops6 ?_
        simp only [go_sem]
        refine aops_pure hops6 rfl rfl rfl (all_calls _ ns us _ hs2 ih _ _) (CoL.refl _) ?_
        refine aops_last 2 hops6 ?_
        simp only [go_sem]
        refine hKR6 _ ?_
        refine hK8 _ ?_
        refine awp_seq_k (fun K9 hK9 => ?_)
        refine awp_plain 2 (by kernel_rfl) rfl (fun g7 hg7 => ?_)
        simp only [go_sem]
        refine hK9 _ ?_
        refine awp_ret ?_
        rw [k2]
        refine ends_ev rfl ?_
        simp only [go_sem]
        exact Co.refl _
      | some i =>
        have h1 : (0 : Int) ≤ i := by omega
        have h2 : ¬ i < us.length := k1 h0 i hf
        refine awp_plain 14 (by kernel_rfl) rfl (fun g2 hg2 => ?_)
        simp only [go_sem, optD, optI, h0, h1, h2, Int.ofNat_eq_zero]
        refine hK4 _ ?_
        refine awp_f rfl ?_
        refine awp_skip ?_
        refine hK2 _ ?_
        refine awp_seq_k (fun K10 hK10 => ?_)
        refine awp_ops (by kernel_rfl) rfl (fun g6 hg6 ops6 KR6 hops6 hKR6 => ?_)
        refine aops_eval 4 hops6 ?_
        simp only [go_sem]
        refine aops_pure hops6 rfl rfl rfl (all_calls _ ns us _ hs2 ih _ _) (CoL.refl _) ?_
        refine aops_last 2 hops6 ?_
        simp only [go_sem]
        refine hKR6 _ ?_
        refine hK10 _ ?_
        refine awp_seq_k (fun K11 hK11 => ?_)
        refine awp_plain 2 (by kernel_rfl) rfl (fun g7 hg7 => ?_)
        simp only [go_sem]
        refine hK11 _ ?_
        refine awp_ret ?_
        rw [k2]
        refine ends_ev rfl ?_
        simp only [go_sem]
        exact Co.refl _
    · refine awp_plain 14 (by kernel_rfl) rfl (fun g2 hg2 => ?_)
      simp only [go_sem, h0, Int.ofNat_eq_zero]
      refine hK4 _ ?_
      refine awp_f rfl ?_
      refine awp_skip ?_
      refine hK2 _ ?_
      refine awp_seq_k (fun K12 hK12 => ?_)
      refine awp_ops (by kernel_rfl) rfl (fun g6 hg6 ops6 KR6 hops6 hKR6 => ?_)
      refine aops_eval 4 hops6 ?_
      simp only [go_sem]
      refine aops_pure hops6 rfl rfl rfl (all_calls _ ns us _ hs2 ih _ _) (CoL.refl _) ?_
      refine aops_last 2 hops6 ?_
      simp only [go_sem]
      refine hKR6 _ ?_
      refine hK12 _ ?_
      refine awp_seq_k (fun K13 hK13 => ?_)
      refine awp_plain 2 (by kernel_rfl) rfl (fun g7 hg7 => ?_)
      simp only [go_sem]
      refine hK13 _ ?_
      refine awp_ret ?_
      rw [k2]
      refine ends_ev rfl ?_
      simp only [go_sem]
      exact Co.refl _

theorem subst_nil : ∀ (t : Ty), smTy t → ∀ g d, ACalls E 42 [encTy t, slS [], slTy []] [] g d (encTy t) [] := by
  refine Ty.ind fun t ih ht g d => ?_
  have := subst_step [] [] (by simp) (fun t ht => by cases ht) t ht (fun x hx g d => by rw [substTy_nil]; exact ih x hx (((smTy_iff t).1 ht).2.2 x hx) g d) g d
  rwa [substTy_nil] at this

theorem clone_calls (t : Ty) (ht : smTy t) (g d : Nat) : ACalls E 33 [encTy t] [] g d (encTy t) [] := by
  refine acalls_of_awp (fn := Try.f33) (N := 5) Try.call33 Try.func33 rfl rfl (by simp) ?_
  simp only [go_sem]
  refine awp_seq_k (fun K1 hK1 => ?_)
  refine awp_plain 2 (by kernel_rfl) rfl (fun g0 hg0 => ?_)
  simp only [go_sem]
  refine hK1 _ ?_
  refine awp_seq_k (fun K2 hK2 => ?_)
  refine awp_ops (by kernel_rfl) rfl (fun g1 hg1 ops1 KR1 hops1 hKR1 => ?_)
  refine aops_eval 1 hops1 ?_
  simp only [go_sem]
  refine aops_pure hops1 rfl rfl rfl (subst_nil t ht _ _) (.cons (.refl _) (.cons (.nil _) (.cons (.nil _) .nil))) ?_
  refine aops_last 1 hops1 ?_
  simp only [go_sem]
  refine hKR1 _ ?_
  refine hK2 _ ?_
  refine awp_ret ?_
  refine ends_ev rfl ?_
  simp only [go_sem]
  exact Co.refl _

theorem subst_calls (ns : List Str) (us : List Ty) (hns : ns.length ≤ 1000000) (hus : ∀ x ∈ us, smTy x) : ∀ (t : Ty), smTy t → ∀ g d, ACalls E 42 [encTy t, slS ns, slTy us] [] g d (encTy (substTy ns us t)) [] := by
  refine Ty.ind fun t ih ht g d => ?_
  exact subst_step ns us hns (fun u hu => clone_calls u (hus u hu)) t ht (fun x hx => ih x hx (((smTy_iff t).1 ht).2.2 x hx)) g d

end Go.Proofs.T

