/- A part of the proof, under no conditions of its own: ZAH. -/
import Derived.Test.YtkddeobmfhchfaaDoorZAG
import Derived.Shelf.Strconv.Itoa3
import Derived.Shelf.Spec.SlicesGrow
import Derived.Ground.NamesProg
import Derived.Ground.Names7Prog
import Derived.Test.YtkddeobmfhchfaaDoorProg
import Derived.Lib.ItoaLen
namespace Go.Proofs.T
open Go Go.Ab Go.RowKit

/-! ## Substituting -/

/- All lengths are small. -/
mutual
def smTy : Ty → Prop
  | .mk n a _ => n.size ≤ 1000000 ∧ a.length ≤ 1000000 ∧ smTys a
def smTys : List Ty → Prop
  | [] => True
  | t :: r => smTy t ∧ smTys r
end

theorem smTys_iff : ∀ l, smTys l ↔ ∀ t ∈ l, smTy t
  | [] => by simp [smTys]
  | t :: r => by simp [smTys, smTys_iff r]

theorem smTy_iff (t : Ty) : smTy t ↔ t.name.size ≤ 1000000 ∧ t.args.length ≤ 1000000 ∧ ∀ x ∈ t.args, smTy x := by
  cases t
  simp [smTy, smTys_iff]

theorem smTy.ok (t : Ty) : smTy t → okTy t := by
  revert t
  refine Ty.ind fun t ih h => ?_
  obtain ⟨h1, h2, h3⟩ := (smTy_iff t).1 h
  exact (okTy_iff t).2 ⟨by omega, by omega, fun x hx => ih x hx (h3 x hx)⟩

def isS (n : Str) (x : Str) : Bool := decide (x = n)
def look (ns : List Str) (us : List Ty) (n : Str) : Option Ty := (ns.findIdx? (isS n)).bind fun i => us[i]?

mutual
def substTy (ns : List Str) (us : List Ty) : Ty → Ty
  | .mk n xs p => match xs.isEmpty, look ns us n with
    | true, some t => .mk t.name t.args p
    | _, _ => .mk n (substTys ns us xs) p
def substTys (ns : List Str) (us : List Ty) : List Ty → List Ty
  | [] => []
  | t :: r => substTy ns us t :: substTys ns us r
end
theorem substTys_eq (ns : List Str) (us : List Ty) : ∀ l, substTys ns us l = l.map (substTy ns us)
  | [] => by simp [substTys]
  | t :: r => by simp [substTys, substTys_eq ns us r]
theorem substTy_eq (ns : List Str) (us : List Ty) (t : Ty) : substTy ns us t = match t.args.isEmpty, look ns us t.name with
    | true, some u => .mk u.name u.args t.pos
    | _, _ => .mk t.name (t.args.map (substTy ns us)) t.pos := by
  cases t
  rw [substTy]
  simp only [substTys_eq, Ty.name_mk, Ty.args_mk, Ty.pos_mk]

theorem substTy_nil : ∀ t : Ty, substTy [] [] t = t := by
  refine Ty.ind fun t ih => ?_
  rw [substTy_eq]
  have : t.args.map (substTy [] []) = t.args := by
    conv => rhs; rw [← List.map_id t.args]
    exact List.map_congr_left fun x hx => by rw [ih x hx]; rfl
  simp [look, this, Ty.eta]

theorem smTy_subst {ns : List Str} {us : List Ty} (ha : ∀ x ∈ us, smTy x) (t : Ty) : smTy t → smTy (substTy ns us t) := by
  revert t
  refine Ty.ind fun t ih h => ?_
  obtain ⟨h1, h2, h3⟩ := (smTy_iff t).1 h
  rw [substTy_eq]
  split
  · rename_i u _ hu
    have hm : u ∈ us := by
      unfold look at hu
      cases hf : ns.findIdx? (isS t.name) with
      | none => rw [hf] at hu; cases hu
      | some i => rw [hf] at hu; exact List.mem_of_getElem? hu
    have := (smTy_iff u).1 (ha u hm)
    exact (smTy_iff _).2 this
  · refine (smTy_iff _).2 ⟨h1, by simpa using h2, fun x hx => ?_⟩
    simp only [Ty.args_mk, List.mem_map] at hx
    obtain ⟨y, hy, rfl⟩ := hx
    exact ih y hy (h3 y hy)

def optI : Option Nat → Int
  | some k => k
  | none => -1
def optD (o : Option Nat) : D := dI (optI o)

theorem findD {α : Type} (p : α → Bool) (l : List α) (k : Nat) (h : k < l.length) : (l.drop k).findIdx? p = if p l[k] then some 0 else ((l.drop (k + 1)).findIdx? p).map (· + 1) := by
  rw [dropC l k h, List.findIdx?_cons]

theorem index_calls (l : List Str) (n : Str) (hl : l.length ≤ 9223372036854775807) (g d : Nat) : ACalls E 59 [slS l, encS n] [] g d (optD (l.findIdx? (isS n))) [] := by
  refine acalls_of_awp (fn := Tryd.f59) (N := 19) Tryd.call59 Tryd.func59 rfl rfl (by simp) ?_
  simp only [go_sem]
  refine awp_seq_k (fun K1 hK1 => ?_)
  refine awp_plain 1 (by kernel_rfl) rfl (fun g0 hg0 => ?_)
  simp only [go_sem]
  refine hK1 _ ?_
  refine awp_seq_k (fun K2 hK2 => ?_)
  refine awp_seq_k (fun K3 hK3 => ?_)
  refine awp_plain 3 (by kernel_rfl) rfl (fun g1 hg1 => ?_)
  simp only [go_sem]
  refine hK3 _ ?_
  refine awp_block ?_
  refine awp_loop (fun m s => ∃ k, k ≤ l.length ∧ m = l.length - k ∧ l.findIdx? (isS n) = ((l.drop k).findIdx? (isS n)).map (· + k) ∧
      Le { env := [(0, slS l), (1, encS n), (6, slS l), (7, dN l.length), (8, dN k)], σ := [] } s) l.length ?_ ?_
  · refine ⟨0, Nat.zero_le _, rfl, by simp, le_of ?_⟩
    simp only [go_sem]
    trivial
  · rintro m s ⟨k, hk, rfl, hf, hle⟩
    refine awp_keep hle ?_
    clear hle
    by_cases h : k < l.length
    · rw [findD _ _ _ h] at hf
      refine awp_seq_k (fun K4 hK4 => ?_)
      refine awp_plain 1 (by kernel_rfl) rfl (fun g2 hg2 => ?_)
      simp only [go_sem, h]
      refine hK4 _ ?_
      refine awp_seq_k (fun K5 hK5 => ?_)
      refine awp_t rfl ?_
      refine awp_skip ?_
      refine hK5 _ ?_
      refine awp_seq_k (fun K6 hK6 => ?_)
      refine awp_block ?_
      refine awp_seq_k (fun K7 hK7 => ?_)
      refine awp_plain 2 (by kernel_rfl) rfl (fun g3 hg3 => ?_)
      simp only [go_sem]
      refine hK7 _ ?_
      refine awp_seq_k (fun K8 hK8 => ?_)
      by_cases he : l[k] = n
      · rw [if_pos (by simp [isS, he])] at hf
        refine awp_plain 6 (by kernel_rfl) rfl (fun g4 hg4 => ?_)
        simp only [go_sem, getM h, he]
        refine hK8 _ ?_
        refine awp_t rfl ?_
        refine awp_seq_k (fun K9 hK9 => ?_)
        refine awp_plain 2 (by kernel_rfl) rfl (fun g5 hg5 => ?_)
        simp only [go_sem]
        refine hK9 _ ?_
        refine awp_ret ?_
        rw [hf]
        refine ends_ev rfl ?_
        simp only [go_sem]
        exact Co.of_eq (by simp [optD, optI])
      · rw [if_neg (by simp [isS, he])] at hf
        have he' : ¬ n = l[k] := fun h => he h.symm
        refine awp_plain 6 (by kernel_rfl) rfl (fun g4 hg4 => ?_)
        simp only [go_sem, getM h, he']
        refine hK8 _ ?_
        refine awp_f rfl ?_
        refine awp_skip ?_
        refine hK6 _ ?_
        refine awp_plain 2 (by kernel_rfl) rfl (fun g6 hg6 => ?_)
        simp only [go_sem]
        try simp (disch := omega) only [wrapN]
        refine ⟨_, ?_, k + 1, h, rfl, ?_, le_of ?_⟩
        · omega
        · rw [hf]; simp [Option.map_map, Function.comp_def, Nat.add_comm, Nat.add_left_comm]
        simp only [go_sem]
        omega
    · rw [dropN l k (by omega)] at hf
      refine awp_seq_k (fun K10 hK10 => ?_)
      refine awp_plain 1 (by kernel_rfl) rfl (fun g2 hg2 => ?_)
      simp only [go_sem, h]
      refine hK10 _ ?_
      refine awp_seq_k (fun K11 hK11 => ?_)
      refine awp_f rfl ?_
      refine awp_exit ?_
      refine hK2 _ ?_
      refine awp_seq_k (fun K12 hK12 => ?_)
      refine awp_plain 1 (by kernel_rfl) rfl (fun g7 hg7 => ?_)
      simp only [go_sem]
      refine hK12 _ ?_
      refine awp_ret ?_
      rw [hf]
      refine ends_ev rfl ?_
      simp only [go_sem]
      exact Co.of_eq (by simp [optD, optI])

theorem all_calls (f : Ty → Ty) (ns : List Str) (us l : List Ty) (hl : l.length ≤ 1000000) (h : ∀ t ∈ l, ∀ g d, ACalls E 34 [encTy t, slS ns, slTy us] [] g d (encTy (f t)) []) (g d : Nat) :
    ACalls E 61 [slTy l, slS ns, slTy us] [] g d (slTy (l.map f)) [] := by
  refine acalls_of_awp (fn := Tryd.f61) (N := 25) Tryd.call61 Tryd.func61 rfl rfl (by simp) ?_
  simp only [go_sem]
  refine awp_seq_k (fun K1 hK1 => ?_)
  refine awp_plain 1 (by kernel_rfl) rfl (fun g0 hg0 => ?_)
  simp only [go_sem]
  refine hK1 _ ?_
  refine awp_seq_k (fun K2 hK2 => ?_)
  refine awp_plain 1 (by kernel_rfl) rfl (fun g1 hg1 => ?_)
  simp only [go_sem]
  refine hK2 _ ?_
  refine awp_seq_k (fun K3 hK3 => ?_)
  refine awp_seq_k (fun K4 hK4 => ?_)
  refine awp_plain 3 (by kernel_rfl) rfl (fun g2 hg2 => ?_)
  simp only [go_sem]
  refine hK4 _ ?_
  refine awp_block ?_
  refine awp_nil 7 25 3 rfl fun gn hgn => ?_
  refine awp_loop (fun m s => ∃ k a i, k ≤ l.length ∧ m = l.length - k ∧
      Le { env := [(1, slS ns), (2, slTy us), (10, slTy l), (11, dN l.length), (12, dN k), (7, .own ⟨a, i, 0⟩ k)], σ := [(⟨a, i, 0⟩, .arr 25 3 ((l.take k).map fun t => encTy (f t)))] } s) l.length ?_ ?_
  · refine ⟨0, gn, 0, Nat.zero_le _, rfl, le_of ?_⟩
    simp only [go_sem]
    trivial
  · rintro m s ⟨k, a, i, hk, rfl, hle⟩
    refine awp_keep hle ?_
    clear hle
    by_cases hlt : k < l.length
    · refine awp_seq_k (fun K5 hK5 => ?_)
      refine awp_plain 1 (by kernel_rfl) rfl (fun g3 hg3 => ?_)
      simp only [go_sem, hlt]
      refine hK5 _ ?_
      refine awp_seq_k (fun K6 hK6 => ?_)
      refine awp_t rfl ?_
      refine awp_skip ?_
      refine hK6 _ ?_
      refine awp_seq_k (fun K7 hK7 => ?_)
      refine awp_block ?_
      refine awp_seq_k (fun K8 hK8 => ?_)
      refine awp_plain 4 (by kernel_rfl) rfl (fun g4 hg4 => ?_)
      simp only [go_sem, getM hlt]
      refine hK8 _ ?_
      have hn4_a : g4 ≠ a := fresh_g hg4 i 0 (by simp [go_sem])
      refine awp_ops (by kernel_rfl) rfl (fun g5 hg5 ops5 KR5 hops5 hKR5 => ?_)
      refine aops_eval 4 hops5 ?_
      simp only [go_sem, Ne.symm hn4_a]
      refine aops_pure hops5 rfl rfl rfl (h _ (List.getElem_mem hlt) _ _) (CoL.refl _) ?_
      refine aops_eval 1 hops5 ?_
      simp only [go_sem]
      refine aops_app hops5 rfl rfl rfl rfl rfl es23 sz25 by25 ze25 rfl (by decide) ?_
      simp only [go_sem, List.length_take_of_le (Nat.le_of_lt hlt), hn4_a]
      first | refine ⟨⟨by omega, by omega⟩, ?_⟩ | skip
      refine aops_last 1 hops5 ?_
      simp only [go_sem]
      refine hKR5 _ ?_
      refine hK7 _ ?_
      refine awp_plain 2 (by kernel_rfl) rfl (fun g6 hg6 => ?_)
      simp only [go_sem]
      try simp (disch := omega) only [wrapN]
      refine ⟨_, ?_, k + 1, g5, 22, hlt, rfl, le_of ?_⟩
      · omega
      simp only [go_sem, ← takeM _ hlt]
      omega
    · refine awp_seq_k (fun K9 hK9 => ?_)
      refine awp_plain 1 (by kernel_rfl) rfl (fun g3 hg3 => ?_)
      simp only [go_sem, hlt]
      refine hK9 _ ?_
      refine awp_seq_k (fun K10 hK10 => ?_)
      refine awp_f rfl ?_
      refine awp_exit ?_
      refine hK3 _ ?_
      refine awp_seq_k (fun K11 hK11 => ?_)
      refine awp_plain 2 (by kernel_rfl) rfl (fun g7 hg7 => ?_)
      simp only [go_sem]
      refine hK11 _ ?_
      refine awp_ret ?_
      have : k = l.length := by omega
      subst this
      refine ret_frz ⟨a, i, 0⟩ ?_
      simp only [go_sem]
      refine ends_ev rfl ?_
      simp only [go_sem]
      exact Co.of_eq (by simp [Function.comp_def])

theorem subst_step (ns : List Str) (us : List Ty) (hns : ns.length ≤ 1000000) (hc : ∀ t ∈ us, ∀ g d, ACalls E 60 [encTy t] [] g d (encTy t) []) (t : Ty) (ht : smTy t)
    (ih : ∀ x ∈ t.args, ∀ g d, ACalls E 34 [encTy x, slS ns, slTy us] [] g d (encTy (substTy ns us x)) []) (g d : Nat) :
    ACalls E 34 [encTy t, slS ns, slTy us] [] g d (encTy (substTy ns us t)) [] := by
  obtain ⟨hs1, hs2, hs3⟩ := (smTy_iff t).1 ht
  have key : (t.args.length = 0 ∧ ∃ i u, ns.findIdx? (isS t.name) = some i ∧ ∃ h : i < us.length, us[i] = u ∧ substTy ns us t = .mk u.name u.args t.pos) ∨
      ((t.args.length = 0 → ∀ i, ns.findIdx? (isS t.name) = some i → ¬ i < us.length) ∧ substTy ns us t = .mk t.name (t.args.map (substTy ns us)) t.pos) := by
    rw [substTy_eq]
    unfold look
    cases hx : t.args with
    | nil =>
      cases hf : ns.findIdx? (isS t.name) with
      | none => right; simp
      | some i =>
        by_cases hi : i < us.length
        · left; simp [hi]
        · right; simp [hi]; omega
    | cons y ys => right; simp
  refine acalls_of_awp (fn := Tryd.f34) (N := 43) Tryd.call34 Tryd.func34 rfl rfl (by simp) ?_
  simp only [go_sem]
  refine awp_seq_k (fun K1 hK1 => ?_)
  refine awp_plain 2 (by kernel_rfl) rfl (fun g0 hg0 => ?_)
  simp only [go_sem]
  refine hK1 _ ?_
  refine awp_seq_k (fun K2 hK2 => ?_)
  refine awp_seq_k (fun K3 hK3 => ?_)
  refine awp_ops (by kernel_rfl) rfl (fun g1 hg1 ops1 KR1 hops1 hKR1 => ?_)
  refine aops_eval 3 hops1 ?_
  simp only [go_sem]
  refine aops_pure hops1 rfl rfl rfl (index_calls _ _ (by omega) _ _) (CoL.refl _) ?_
  refine aops_last 1 hops1 ?_
  simp only [go_sem]
  refine hKR1 _ ?_
  refine hK3 _ ?_
  refine awp_seq_k (fun K4 hK4 => ?_)
  rcases key with ⟨k1, i, u, k2, k3, k4, k5⟩ | ⟨k1, k2⟩
  · rw [k2]
    have h0 : (0 : Int) ≤ i := by omega
    refine awp_plain 14 (by kernel_rfl) rfl (fun g2 hg2 => ?_)
    simp only [go_sem, optD, optI, k1, Int.ofNat_eq_zero, decide_true, h0, k3]
    refine hK4 _ ?_
    refine awp_t rfl ?_
    refine awp_seq_k (fun K5 hK5 => ?_)
    refine awp_ops (by kernel_rfl) rfl (fun g3 hg3 ops3 KR3 hops3 hKR3 => ?_)
    refine aops_eval 4 hops3 ?_
    simp only [go_sem, getM k3]
    refine aops_pure hops3 rfl rfl rfl (hc _ (List.getElem_mem k3) _ _) (CoL.refl _) ?_
    refine aops_last 2 hops3 ?_
    simp only [go_sem]
    refine hKR3 _ ?_
    refine hK5 _ ?_
    refine awp_seq_k (fun K6 hK6 => ?_)
    refine awp_plain 4 (by kernel_rfl) rfl (fun g4 hg4 => ?_)
    simp only [go_sem]
    refine hK6 _ ?_
    refine awp_seq_k (fun K7 hK7 => ?_)
    refine awp_plain 2 (by kernel_rfl) rfl (fun g5 hg5 => ?_)
    simp only [go_sem]
    refine hK7 _ ?_
    refine awp_ret ?_
    rw [k5, ← k4]
    refine ends_ev rfl ?_
    simp only [go_sem]
    exact Co.refl _
  · by_cases h0 : t.args.length = 0
    · cases hf : ns.findIdx? (isS t.name) with
      | none =>
        refine awp_plain 14 (by kernel_rfl) rfl (fun g2 hg2 => ?_)
        simp only [go_sem, optD, optI, h0, Int.ofNat_eq_zero]
        refine hK4 _ ?_
        refine awp_f rfl ?_
        refine awp_skip ?_
        refine hK2 _ ?_
        refine awp_seq_k (fun K8 hK8 => ?_)
        refine awp_ops (by kernel_rfl) rfl (fun g6 hg6 ops6 KR6 hops6 hKR6 => ?_)
        refine aops_eval 4 hops6 ?_
        simp only [go_sem]
        refine aops_pure hops6 rfl rfl rfl (all_calls _ ns us _ hs2 ih _ _) (CoL.refl _) ?_
        refine aops_last 2 hops6 ?_
        simp only [go_sem]
        refine hKR6 _ ?_
        refine hK8 _ ?_
        refine awp_seq_k (fun K9 hK9 => ?_)
        refine awp_plain 2 (by kernel_rfl) rfl (fun g7 hg7 => ?_)
        simp only [go_sem]
        refine hK9 _ ?_
        refine awp_ret ?_
        rw [k2]
        refine ends_ev rfl ?_
        simp only [go_sem]
        exact Co.refl _
      | some i =>
        have h1 : (0 : Int) ≤ i := by omega
        have h2 : ¬ i < us.length := k1 h0 i hf
        refine awp_plain 14 (by kernel_rfl) rfl (fun g2 hg2 => ?_)
        simp only [go_sem, optD, optI, h0, h1, h2, Int.ofNat_eq_zero]
        refine hK4 _ ?_
        refine awp_f rfl ?_
        refine awp_skip ?_
        refine hK2 _ ?_
        refine awp_seq_k (fun K10 hK10 => ?_)
        refine awp_ops (by kernel_rfl) rfl (fun g6 hg6 ops6 KR6 hops6 hKR6 => ?_)
        refine aops_eval 4 hops6 ?_
        simp only [go_sem]
        refine aops_pure hops6 rfl rfl rfl (all_calls _ ns us _ hs2 ih _ _) (CoL.refl _) ?_
        refine aops_last 2 hops6 ?_
        simp only [go_sem]
        refine hKR6 _ ?_
        refine hK10 _ ?_
        refine awp_seq_k (fun K11 hK11 => ?_)
        refine awp_plain 2 (by kernel_rfl) rfl (fun g7 hg7 => ?_)
        simp only [go_sem]
        refine hK11 _ ?_
        refine awp_ret ?_
        rw [k2]
        refine ends_ev rfl ?_
        simp only [go_sem]
        exact Co.refl _
    · refine awp_plain 14 (by kernel_rfl) rfl (fun g2 hg2 => ?_)
      simp only [go_sem, h0, Int.ofNat_eq_zero]
      refine hK4 _ ?_
      refine awp_f rfl ?_
      refine awp_skip ?_
      refine hK2 _ ?_
      refine awp_seq_k (fun K12 hK12 => ?_)
      refine awp_ops (by kernel_rfl) rfl (fun g6 hg6 ops6 KR6 hops6 hKR6 => ?_)
      refine aops_eval 4 hops6 ?_
      simp only [go_sem]
      refine aops_pure hops6 rfl rfl rfl (all_calls _ ns us _ hs2 ih _ _) (CoL.refl _) ?_
      refine aops_last 2 hops6 ?_
      simp only [go_sem]
      refine hKR6 _ ?_
      refine hK12 _ ?_
      refine awp_seq_k (fun K13 hK13 => ?_)
      refine awp_plain 2 (by kernel_rfl) rfl (fun g7 hg7 => ?_)
      simp only [go_sem]
      refine hK13 _ ?_
      refine awp_ret ?_
      rw [k2]
      refine ends_ev rfl ?_
      simp only [go_sem]
      exact Co.refl _

theorem subst_nil : ∀ (t : Ty), smTy t → ∀ g d, ACalls E 34 [encTy t, slS [], slTy []] [] g d (encTy t) [] := by
  refine Ty.ind fun t ih ht g d => ?_
  have := subst_step [] [] (by simp) (fun t ht => by cases ht) t ht (fun x hx g d => by rw [substTy_nil]; exact ih x hx (((smTy_iff t).1 ht).2.2 x hx) g d) g d
  rwa [substTy_nil] at this

theorem clone_calls (t : Ty) (ht : smTy t) (g d : Nat) : ACalls E 60 [encTy t] [] g d (encTy t) [] := by
  refine acalls_of_awp (fn := Tryd.f60) (N := 5) Tryd.call60 Tryd.func60 rfl rfl (by simp) ?_
  simp only [go_sem]
  refine awp_seq_k (fun K1 hK1 => ?_)
  refine awp_plain 2 (by kernel_rfl) rfl (fun g0 hg0 => ?_)
  simp only [go_sem]
  refine hK1 _ ?_
  refine awp_seq_k (fun K2 hK2 => ?_)
  refine awp_ops (by kernel_rfl) rfl (fun g1 hg1 ops1 KR1 hops1 hKR1 => ?_)
  refine aops_eval 1 hops1 ?_
  simp only [go_sem]
  refine aops_pure hops1 rfl rfl rfl (subst_nil t ht _ _) (.cons (.refl _) (.cons (.nil _) (.cons (.nil _) .nil))) ?_
  refine aops_last 1 hops1 ?_
  simp only [go_sem]
  refine hKR1 _ ?_
  refine hK2 _ ?_
  refine awp_ret ?_
  refine ends_ev rfl ?_
  simp only [go_sem]
  exact Co.refl _

theorem subst_calls (ns : List Str) (us : List Ty) (hns : ns.length ≤ 1000000) (hus : ∀ x ∈ us, smTy x) : ∀ (t : Ty), smTy t → ∀ g d, ACalls E 34 [encTy t, slS ns, slTy us] [] g d (encTy (substTy ns us t)) [] := by
  refine Ty.ind fun t ih ht g d => ?_
  exact subst_step ns us hns (fun u hu => clone_calls u (hus u hu)) t ht (fun x hx => ih x hx (((smTy_iff t).1 ht).2.2 x hx)) g d

end Go.Proofs.T


namespace Go.Proofs.T
open Go Go.Ab Go.RowKit

end Go.Proofs.T


namespace Go.Proofs.T
open Go Go.Ab Go.RowKit

/-! ## Substituting in signatures -/

def smFm (f : Formal) : Prop := f.name.size ≤ 1000000 ∧ smTy f.bound
def smPa (f : Param) : Prop := f.name.size ≤ 1000000 ∧ smTy f.type
def smSi (s : Sig) : Prop := s.name.size ≤ 1000000 ∧ (s.formals.length ≤ 1000000 ∧ ∀ f ∈ s.formals, smFm f) ∧ (s.params.length ≤ 1000000 ∧ ∀ f ∈ s.params, smPa f) ∧ smTy s.result

def mapFm (f : Ty → Ty) (x : Formal) : Formal := ⟨x.name, f x.bound, x.pos⟩
def mapPa (f : Ty → Ty) (x : Param) : Param := ⟨x.name, f x.type, x.pos⟩
def mapSi (f : Ty → Ty) (s : Sig) : Sig := ⟨s.name, s.formals.map (mapFm f), s.params.map (mapPa f), f s.result, s.pos⟩

/-- A signature whose lists are new. -/
def ownSi (g d : Nat) (s : Sig) : D := .agg [.val (.string s.name), .own ⟨g, d, 1⟩ s.formals.length, .own ⟨g, d, 2⟩ s.params.length, .val (.string s.result.name), .sl false (s.result.args.map encTy), .val (.int .i64 s.result.pos), .val (.int .i64 s.pos)]
def newSi (g d : Nat) (s : Sig) : Sto := [(⟨g, d, 1⟩, .arr 60 5 (s.formals.map encFm)), (⟨g, d, 2⟩, .arr 62 5 (s.params.map encPa))]
def zSi : List D := [.val (.string ByteArray.empty), .val (.slice none 0 0), .val (.slice none 0 0), .val (.string ByteArray.empty), .val (.slice none 0 0), dI 0, dI 0]

theorem mapped_calls (F : Ty → Ty) (f : Nat) (caps : List D) (hF : ∀ x, smTy x → ∀ g d, ACalls E f (encTy x :: caps) [] g d (encTy (F x)) []) (s : Sig) (hs : smSi s) (g d : Nat) :
    ACalls E 62 [encSi s, .func (.func f) [] caps] [] g d (ownSi g d (mapSi F s)) (newSi g d (mapSi F s)) := by
  obtain ⟨h1, ⟨h2, h3⟩, ⟨h4, h5⟩, h6⟩ := hs
  generalize hr : ownSi g d (mapSi F s) = R
  generalize hw : newSi g d (mapSi F s) = W
  refine acalls_of_awp (fn := Tryd.f62) (N := 64) Tryd.call62 Tryd.func62 rfl rfl (by simp) ?_
  simp only [go_sem]
  refine awp_seq_k (fun K1 hK1 => ?_)
  refine awp_plain 2 (by kernel_rfl) rfl (fun g0 hg0 => ?_)
  simp only [go_sem]
  refine hK1 _ ?_
  refine awp_seq_k (fun K2 hK2 => ?_)
  refine awp_any 10 (by kernel_rfl) (by kernel_rfl) rfl (fun g1 hg1 ops1 KR1 hops1 hKR1 => ?_)
  refine qrun_eval 5 hops1 ?_
  simp only [go_sem]
  refine qrun_pure hops1 rfl rfl rfl (hF _ h6 _ _) (CoL.refl _) rfl ?_
  refine qrun_last 4 hops1 ?_
  simp only [go_sem]
  refine aops_last 1 hops1 ?_
  simp only [go_sem]
  refine hKR1 _ ?_
  refine hK2 _ ?_
  refine awp_seq_k (fun K3 hK3 => ?_)
  refine awp_seq_k (fun K4 hK4 => ?_)
  refine awp_plain 4 (by kernel_rfl) rfl (fun g2 hg2 => ?_)
  simp only [go_sem]
  refine hK4 _ ?_
  refine awp_block ?_
  refine awp_nil_box ⟨g1, 5, 0⟩ 1 60 5 ?_
  simp only [go_sem]
  intro gn hgn
  have hn : gn ≠ g1 := fresh_g hgn 5 0 (by simp [go_sem])
  have hn0 : gn ≠ g0 := fresh_g hgn 2 0 (by simp [go_sem])
  refine awp_loop (fun m st => ∃ k a i, k ≤ s.formals.length ∧ m = s.formals.length - k ∧ a ≠ g0 ∧ a ≠ g1 ∧
      Le { env := [(1, .func (.func f) [] caps), (2, .ptr ⟨g0, 2, 0⟩ 0), (4, .ptr ⟨g0, 4, 0⟩ 0), (5, .ptr ⟨g1, 5, 0⟩ 0), (20, slFm s.formals), (21, dN s.formals.length), (22, dN k)],
           σ := [(⟨g0, 2, 0⟩, .box 50 (siC s)), (⟨g0, 4, 0⟩, .box 50 zSi),
             (⟨g1, 5, 0⟩, .box 50 [.val (.string s.name), .own ⟨a, i, 0⟩ k, .val (.slice none 0 0), .val (.string (F s.result).name), .sl false ((F s.result).args.map encTy), .val (.int .i64 (F s.result).pos), .val (.int .i64 s.pos)]),
             (⟨a, i, 0⟩, .arr 60 5 ((s.formals.take k).map fun f => encFm (mapFm F f)))] } st) s.formals.length ?_ ?_
  · refine ⟨0, gn, 0, Nat.zero_le _, rfl, hn0, hn, le_of ?_⟩
    simp only [go_sem, zSi, hn, hn0, Ne.symm hn, Ne.symm hn0]
    trivial
  · rintro m st ⟨k, a, i, hk, rfl, ha0, ha1, hle⟩
    refine awp_keep hle ?_
    clear hle
    by_cases hlt : k < s.formals.length
    · refine awp_seq_k (fun K5 hK5 => ?_)
      refine awp_plain 1 (by kernel_rfl) rfl (fun g3 hg3 => ?_)
      simp only [go_sem, hlt, zSi, mapFm]
      refine hK5 _ ?_
      refine awp_seq_k (fun K6 hK6 => ?_)
      refine awp_t rfl ?_
      refine awp_skip ?_
      refine hK6 _ ?_
      refine awp_seq_k (fun K7 hK7 => ?_)
      refine awp_block ?_
      refine awp_seq_k (fun K8 hK8 => ?_)
      refine awp_plain 4 (by kernel_rfl) rfl (fun g4 hg4 => ?_)
      simp only [go_sem, getM hlt]
      refine hK8 _ ?_
      have hn4_a : g4 ≠ a := fresh_g hg4 i 0 (by simp [go_sem, Ne.symm ha0, Ne.symm ha1])
      have hn4_g0 : g4 ≠ g0 := fresh_g hg4 2 0 (by simp [go_sem])
      have hn4_g1 : g4 ≠ g1 := fresh_g hg4 5 0 (by simp [go_sem])
      refine awp_any 12 (by kernel_rfl) (by kernel_rfl) rfl (fun g5 hg5 ops5 KR5 hops5 hKR5 => ?_)
      refine qrun_eval 7 hops5 ?_
      simp only [go_sem, ha1, Ne.symm hn4_a, Ne.symm hn4_g0, hn4_g1, Ne.symm hn4_g1]
      refine qrun_pure hops5 rfl rfl rfl (hF _ (h3 _ (List.getElem_mem hlt)).2 _ _) (CoL.refl _) rfl ?_
      refine qrun_last 4 hops5 ?_
      simp only [go_sem, Ne.symm hn4_a, Ne.symm hn4_g0, Ne.symm hn4_g1]
      refine aops_eval 0 hops5 ?_
      simp only [go_sem]
      refine aops_app hops5 rfl rfl rfl rfl rfl es46 sz60 by60 ze60 rfl (by decide) ?_
      simp only [go_sem, List.length_take_of_le (Nat.le_of_lt hlt), Ne.symm ha0, Ne.symm ha1, hn4_a]
      first | refine ⟨⟨by omega, by omega⟩, ?_⟩ | skip
      refine aops_last 2 hops5 ?_
      simp only [go_sem, hn4_g1]
      refine hKR5 _ ?_
      refine hK7 _ ?_
      have hn5_g0 : g5 ≠ g0 := fresh_g hg5 2 0 (by simp [go_sem, hn4_g0])
      have hn5_g1 : g5 ≠ g1 := fresh_g hg5 5 0 (by simp [go_sem, hn4_g1])
      refine awp_plain 2 (by kernel_rfl) rfl (fun g6 hg6 => ?_)
      simp only [go_sem, zSi, mapFm]
      try simp (disch := omega) only [wrapN]
      refine ⟨_, ?_, k + 1, g5, 38, hlt, rfl, hn5_g0, hn5_g1, le_of ?_⟩
      · omega
      simp only [go_sem, ← takeM _ hlt, hn4_g0, hn4_g1, hn5_g0, Ne.symm hn5_g0, hn5_g1, Ne.symm hn5_g1]
      omega
    · refine awp_seq_k (fun K9 hK9 => ?_)
      refine awp_plain 1 (by kernel_rfl) rfl (fun g3 hg3 => ?_)
      simp only [go_sem, hlt, zSi]
      refine hK9 _ ?_
      refine awp_seq_k (fun K10 hK10 => ?_)
      refine awp_f rfl ?_
      refine awp_exit ?_
      refine hK3 _ ?_
      refine awp_seq_k (fun K11 hK11 => ?_)
      refine awp_seq_k (fun K12 hK12 => ?_)
      have : k = s.formals.length := by omega
      subst this
      refine awp_plain 4 (by kernel_rfl) rfl (fun g7 hg7 => ?_)
      simp only [go_sem, List.take_length, ha0]
      refine hK12 _ ?_
      refine awp_block ?_
      refine awp_nil_box ⟨g1, 5, 0⟩ 2 62 5 ?_
      simp only [go_sem, ha1]
      intro gm hgm
      have hm : gm ≠ g1 := fresh_g hgm 5 0 (by simp [go_sem])
      have hm0 : gm ≠ g0 := fresh_g hgm 2 0 (by simp [go_sem])
      have hma : gm ≠ a := fresh_g hgm i 0 (by simp [go_sem, Ne.symm ha0, Ne.symm ha1])
      refine awp_loop (fun m st => ∃ k b j, k ≤ s.params.length ∧ m = s.params.length - k ∧ b ≠ g0 ∧ b ≠ g1 ∧ b ≠ a ∧
          Le { env := [(1, .func (.func f) [] caps), (2, .ptr ⟨g0, 2, 0⟩ 0), (4, .ptr ⟨g0, 4, 0⟩ 0), (5, .ptr ⟨g1, 5, 0⟩ 0), (42, slPa s.params), (43, dN s.params.length), (44, dN k)],
               σ := [(⟨g0, 2, 0⟩, .box 50 (siC s)), (⟨g0, 4, 0⟩, .box 50 zSi),
                 (⟨g1, 5, 0⟩, .box 50 [.val (.string s.name), .own ⟨a, i, 0⟩ s.formals.length, .own ⟨b, j, 0⟩ k, .val (.string (F s.result).name), .sl false ((F s.result).args.map encTy), .val (.int .i64 (F s.result).pos), .val (.int .i64 s.pos)]),
                 (⟨b, j, 0⟩, .arr 62 5 ((s.params.take k).map fun f => encPa (mapPa F f))),
                 (⟨a, i, 0⟩, .arr 60 5 (s.formals.map fun f => encFm (mapFm F f)))] } st) s.params.length ?_ ?_
      · refine ⟨0, gm, 0, Nat.zero_le _, rfl, hm0, hm, hma, le_of ?_⟩
        simp only [go_sem, zSi, ha0, ha1, Ne.symm ha0, Ne.symm ha1, zSi, hm, hm0, hma, Ne.symm hm, Ne.symm hm0, Ne.symm hma]
        trivial
      · rintro m st ⟨k, b, j, hk, rfl, hb0, hb1, hba, hle⟩
        refine awp_keep hle ?_
        clear hle
        by_cases hlt : k < s.params.length
        · refine awp_seq_k (fun K13 hK13 => ?_)
          refine awp_plain 1 (by kernel_rfl) rfl (fun g8 hg8 => ?_)
          simp only [go_sem, zSi, encPa, mapPa, hlt]
          refine hK13 _ ?_
          refine awp_seq_k (fun K14 hK14 => ?_)
          refine awp_t rfl ?_
          refine awp_skip ?_
          refine hK14 _ ?_
          refine awp_seq_k (fun K15 hK15 => ?_)
          refine awp_block ?_
          refine awp_seq_k (fun K16 hK16 => ?_)
          refine awp_plain 4 (by kernel_rfl) rfl (fun g9 hg9 => ?_)
          simp only [go_sem, getM hlt, encPa]
          refine hK16 _ ?_
          have hn9_a : g9 ≠ a := fresh_g hg9 i 0 (by simp [go_sem, Ne.symm ha0, Ne.symm ha1, hba])
          have hn9_b : g9 ≠ b := fresh_g hg9 j 0 (by simp [go_sem, Ne.symm hb0, Ne.symm hb1])
          have hn9_g0 : g9 ≠ g0 := fresh_g hg9 2 0 (by simp [go_sem])
          have hn9_g1 : g9 ≠ g1 := fresh_g hg9 5 0 (by simp [go_sem])
          refine awp_any 12 (by kernel_rfl) (by kernel_rfl) rfl (fun g10 hg10 ops10 KR10 hops10 hKR10 => ?_)
          refine qrun_eval 7 hops10 ?_
          simp only [go_sem, ha1, hb1, Ne.symm hn9_a, Ne.symm hn9_b, Ne.symm hn9_g0, hn9_g1, Ne.symm hn9_g1]
          refine qrun_pure hops10 rfl rfl rfl (hF _ (h5 _ (List.getElem_mem hlt)).2 _ _) (CoL.refl _) rfl ?_
          refine qrun_last 4 hops10 ?_
          simp only [go_sem, Ne.symm hn9_a, Ne.symm hn9_b, Ne.symm hn9_g0, Ne.symm hn9_g1]
          refine aops_eval 0 hops10 ?_
          simp only [go_sem]
          refine aops_app hops10 rfl rfl rfl rfl rfl es36 sz62 by62 ze62 rfl (by decide) ?_
          simp only [go_sem, Ne.symm hb0, Ne.symm hb1, Ne.symm hba, List.length_take_of_le (Nat.le_of_lt hlt), hn9_b]
          first | refine ⟨⟨by omega, by omega⟩, ?_⟩ | skip
          refine aops_last 2 hops10 ?_
          simp only [go_sem, ha1, hn9_g1]
          refine hKR10 _ ?_
          refine hK15 _ ?_
          have hn10_g0 : g10 ≠ g0 := fresh_g hg10 2 0 (by simp [go_sem, hn9_g0])
          have hn10_g1 : g10 ≠ g1 := fresh_g hg10 5 0 (by simp [go_sem, hn9_g1])
          have hn10_a : g10 ≠ a := fresh_g hg10 i 0 (by simp [go_sem, Ne.symm ha0, Ne.symm ha1, hba, hn9_a])
          refine awp_plain 2 (by kernel_rfl) rfl (fun g11 hg11 => ?_)
          simp only [go_sem, zSi, encPa, mapPa]
          try simp (disch := omega) only [wrapN]
          refine ⟨_, ?_, k + 1, g10, 60, hlt, rfl, hn10_g0, hn10_g1, hn10_a, le_of ?_⟩
          · omega
          simp only [go_sem, ← takeM _ hlt, ha0, ha1, Ne.symm ha0, Ne.symm ha1, hn9_a, hn9_g0, hn9_g1, hn10_g0, Ne.symm hn10_g0, hn10_g1, Ne.symm hn10_g1, hn10_a, Ne.symm hn10_a]
          omega
        · refine awp_seq_k (fun K17 hK17 => ?_)
          refine awp_plain 1 (by kernel_rfl) rfl (fun g8 hg8 => ?_)
          simp only [go_sem, hlt, zSi, encPa, mapPa]
          refine hK17 _ ?_
          refine awp_seq_k (fun K18 hK18 => ?_)
          refine awp_f rfl ?_
          refine awp_exit ?_
          refine hK11 _ ?_
          refine awp_seq_k (fun K19 hK19 => ?_)
          have : k = s.params.length := by omega
          subst this
          refine awp_plain 2 (by kernel_rfl) rfl (fun g12 hg12 => ?_)
          simp only [go_sem, List.take_length, ha0, ha1, hb0, hb1]
          refine hK19 _ ?_
          refine awp_ret ?_
          subst hr hw
          refine ends_own [⟨a, i, 0⟩, ⟨b, j, 0⟩] rfl ?_
          simp only [go_sem, newSto, newSi, mapSi, List.map_map, ha0, Ne.symm ha0, Ne.symm ha1, hb0, hba, Ne.symm hb0, Ne.symm hb1, Ne.symm hba]
          exact ⟨⟨rfl, rfl⟩, Co.of_eq (by simp [ownSi])⟩

theorem substFun_calls (ns : List Str) (us : List Ty) (hns : ns.length ≤ 1000000) (hus : ∀ x ∈ us, smTy x) (t : Ty) (ht : smTy t) (g d : Nat) :
    ACalls E 63 [encTy t, .eptr [slS ns], .eptr [slTy us]] [] g d (encTy (substTy ns us t)) [] := by
  refine acalls_of_awp (fn := Tryd.f63) (N := 9) Tryd.call63 Tryd.func63 rfl rfl (by simp) ?_
  simp only [go_sem]
  refine awp_seq_k (fun K1 hK1 => ?_)
  refine awp_plain 2 (by kernel_rfl) rfl (fun g0 hg0 => ?_)
  simp only [go_sem]
  refine hK1 _ ?_
  refine awp_seq_k (fun K2 hK2 => ?_)
  refine awp_ops (by kernel_rfl) rfl (fun g1 hg1 ops1 KR1 hops1 hKR1 => ?_)
  refine aops_eval 3 hops1 ?_
  simp only [go_sem]
  refine aops_pure hops1 rfl rfl rfl (subst_calls ns us hns hus t ht _ _) (CoL.refl _) ?_
  refine aops_last 1 hops1 ?_
  simp only [go_sem]
  refine hKR1 _ ?_
  refine hK2 _ ?_
  refine awp_ret ?_
  refine ends_ev rfl ?_
  simp only [go_sem]
  exact Co.refl _

theorem substSig_calls (ns : List Str) (us : List Ty) (hns : ns.length ≤ 1000000) (hus : ∀ x ∈ us, smTy x) (s : Sig) (hs : smSi s) (g d : Nat) :
    ACalls E 36 [encSi s, slS ns, slTy us] [] g d (ownSi g d (mapSi (substTy ns us) s)) (newSi g d (mapSi (substTy ns us) s)) := by
  generalize hr : ownSi g d (mapSi (substTy ns us) s) = R
  generalize hw : newSi g d (mapSi (substTy ns us) s) = W
  refine acalls_of_awp (fn := Tryd.f36) (N := 10) Tryd.call36 Tryd.func36 rfl rfl (by simp) ?_
  simp only [go_sem]
  refine awp_seq_k (fun K1 hK1 => ?_)
  refine awp_plain 4 (by kernel_rfl) rfl (fun g0 hg0 => ?_)
  simp only [go_sem]
  refine hK1 _ ?_
  refine awp_seq_k (fun K2 hK2 => ?_)
  refine awp_still ⟨g0, 4, 0⟩ ?_
  simp only [go_sem]
  refine awp_still ⟨g0, 5, 0⟩ ?_
  simp only [go_sem]
  refine awp_ops (by kernel_rfl) rfl (fun g1 hg1 ops1 KR1 hops1 hKR1 => ?_)
  refine aops_eval 2 hops1 ?_
  simp only [go_sem]
  refine aops_pure hops1 rfl rfl rfl (mapped_calls (substTy ns us) _ [.eptr [slS ns], .eptr [slTy us]] (fun x hx g d => substFun_calls ns us hns hus x hx g d) s hs _ _) (CoL.refl _) ?_
  refine aops_last 1 hops1 ?_
  simp only [go_sem, ownSi, newSi]
  refine hKR1 _ ?_
  refine hK2 _ ?_
  refine awp_ret ?_
  subst hr hw
  refine ends_own [⟨g1, 9, 1⟩, ⟨g1, 9, 2⟩] rfl ?_
  simp only [go_sem, newSto, ownSi, newSi]
  exact Co.refl _

end Go.Proofs.T


namespace Go.Proofs
open Go.Shelf
def Tryd.laysItoa_ren : Go.Shelf.Ren := ⟨fun | 171 => 78 | 243 => 84 | 246 => 86 | 283 => 87 | 284 => 88 | 285 => 89 | 286 => 90 | 129 => 92 | 317 => 91 | 318 => 93 | 319 => 94 | 320 => 95 | 337 => 96 | 338 => 97 | n => n, fun | 3 => 3 | 9 => 9 | 2 => 2 | 4 => 4 | 171 => 122 | 0 => 0 | 53 => 123 | 37 => 120 | 5 => 5 | 173 => 126 | 212 => 130 | 51 => 131 | 20 => 20 | 213 => 132 | 46 => 134 | 232 => 137 | 233 => 138 | n => n, fun | 17 => 0 | 18 => 1 | 19 => 2 | n => n⟩
theorem Tryd.laysItoa : Go.Proofs.LaysM.n171 Tryd.prog Tryd.laysItoa_ren := {
  mixed := by kernel_rfl
  f129 := Tryd.func92.trans (congrArg some (by kernel_rfl))
  f171 := Tryd.func78.trans (congrArg some (by kernel_rfl))
  f243 := Tryd.func84.trans (congrArg some (by kernel_rfl))
  f246 := Tryd.func86.trans (congrArg some (by kernel_rfl))
  f283 := Tryd.func87.trans (congrArg some (by kernel_rfl))
  f284 := Tryd.func88.trans (congrArg some (by kernel_rfl))
  f285 := Tryd.func89.trans (congrArg some (by kernel_rfl))
  f286 := Tryd.func90.trans (congrArg some (by kernel_rfl))
  f317 := Tryd.func91.trans (congrArg some (by kernel_rfl))
  f318 := Tryd.func93.trans (congrArg some (by kernel_rfl))
  f319 := Tryd.func94.trans (congrArg some (by kernel_rfl))
  f320 := Tryd.func95.trans (congrArg some (by kernel_rfl))
  f337 := Tryd.func96.trans (congrArg some (by kernel_rfl))
  f338 := Tryd.func97.trans (congrArg some (by kernel_rfl))
  t0 := Tryd.underlying0
  a0 := Tryd.isAgg0
  z0 := Tryd.sizeOf0
  v0 := Tryd.zeroValue0
  t2 := Tryd.underlying2
  a2 := Tryd.isAgg2
  z2 := Tryd.sizeOf2
  v2 := Tryd.zeroValue2
  t3 := Tryd.underlying3
  a3 := Tryd.isAgg3
  z3 := Tryd.sizeOf3
  v3 := Tryd.zeroValue3
  t4 := Tryd.underlying4
  a4 := Tryd.isAgg4
  z4 := Tryd.sizeOf4
  v4 := Tryd.zeroValue4
  t5 := Tryd.underlying5
  a5 := Tryd.isAgg5
  z5 := Tryd.sizeOf5
  v5 := Tryd.zeroValue5
  t9 := Tryd.underlying9
  a9 := Tryd.isAgg9
  z9 := Tryd.sizeOf9
  v9 := Tryd.zeroValue9
  t20 := Tryd.underlying20
  a20 := Tryd.isAgg20
  z20 := Tryd.sizeOf20
  v20 := Tryd.zeroValue20
  t37 := Tryd.underlying120
  a37 := Tryd.isAgg120
  z37 := Tryd.sizeOf120
  v37 := Tryd.zeroValue120
  t46 := Tryd.underlying134
  a46 := Tryd.isAgg134
  z46 := Tryd.sizeOf134
  v46 := Tryd.zeroValue134
  t51 := Tryd.underlying131
  a51 := Tryd.isAgg131
  z51 := Tryd.sizeOf131
  v51 := Tryd.zeroValue131
  t53 := Tryd.underlying123
  a53 := Tryd.isAgg123
  z53 := Tryd.sizeOf123
  v53 := Tryd.zeroValue123
  t171 := Tryd.underlying122
  a171 := Tryd.isAgg122
  z171 := Tryd.sizeOf122
  v171 := Tryd.zeroValue122
  t173 := Tryd.underlying126
  a173 := Tryd.isAgg126
  z173 := Tryd.sizeOf126
  v173 := Tryd.zeroValue126
  t212 := Tryd.underlying130
  a212 := Tryd.isAgg130
  z212 := Tryd.sizeOf130
  v212 := Tryd.zeroValue130
  t213 := Tryd.underlying132
  a213 := Tryd.isAgg132
  z213 := Tryd.sizeOf132
  t232 := Tryd.underlying137
  a232 := Tryd.isAgg137
  z232 := Tryd.sizeOf137
  v232 := Tryd.zeroValue137
  t233 := Tryd.underlying138
  a233 := Tryd.isAgg138
  z233 := Tryd.sizeOf138
  v233 := Tryd.zeroValue138
  g17 := by kernel_rfl
  g18 := by kernel_rfl
  g19 := by kernel_rfl
  i0 := by kernel_rfl
  i2 := by kernel_rfl
  i3 := by kernel_rfl
  i4 := by kernel_rfl
  i5 := by kernel_rfl
  i9 := by kernel_rfl
  i20 := by kernel_rfl
  i37 := by kernel_rfl
  i46 := by kernel_rfl
  i51 := by kernel_rfl
  i53 := by kernel_rfl
  i171 := by kernel_rfl
  i173 := by kernel_rfl
  i212 := by kernel_rfl
  i232 := by kernel_rfl
  i233 := by kernel_rfl
  m17 := by kernel_rfl
  m18 := by kernel_rfl
  m19 := by kernel_rfl }
def Tryd.layGrow_ren : Go.Shelf.Ren := ⟨fun | 4 => 80 | n => n, fun | 22 => 46 | 25 => 60 | 3 => 3 | 4 => 4 | 9 => 9 | 20 => 20 | 0 => 0 | n => n, fun | n => n⟩
theorem Tryd.layGrow : Go.Proofs.Lays8.n4 Tryd.prog Tryd.layGrow_ren := {
  mixed := by kernel_rfl
  f4 := ⟨Tryd.f80.name, by decide, Tryd.func80.trans (congrArg some (by kernel_rfl))⟩
  t0 := Tryd.underlying0
  a0 := Tryd.isAgg0
  z0 := Tryd.sizeOf0
  v0 := Tryd.zeroValue0
  t3 := Tryd.underlying3
  a3 := Tryd.isAgg3
  z3 := Tryd.sizeOf3
  v3 := Tryd.zeroValue3
  t4 := Tryd.underlying4
  a4 := Tryd.isAgg4
  z4 := Tryd.sizeOf4
  v4 := Tryd.zeroValue4
  t9 := Tryd.underlying9
  a9 := Tryd.isAgg9
  z9 := Tryd.sizeOf9
  v9 := Tryd.zeroValue9
  t20 := Tryd.underlying20
  a20 := Tryd.isAgg20
  z20 := Tryd.sizeOf20
  v20 := Tryd.zeroValue20
  t22 := Tryd.underlying46
  a22 := Tryd.isAgg46
  z22 := Tryd.sizeOf46
  v22 := Tryd.zeroValue46 }
end Go.Proofs

namespace Go.Proofs

theorem Tryd.strconv_Itoa (n : Int) (h0 : -9223372036854775808 ≤ n) (h1 : n ≤ 9223372036854775807) (w : World) (htab : Lib.TabIs Tryd.prog w "internal/strconv.uint64pow10" .u64 Lib.pow10Tab) :
    Calls Tryd.prog 78 #[.int .i64 n] w fun e w' => e = .returned (.string ⟨(Lib.itoa n).toArray⟩) ∧ ∃ k os, w' = Sort.grow (w.drewN k) os := Any.strconv_Itoa Tryd.laysItoa n h0 h1 w htab
end Go.Proofs


namespace Go.Proofs.T
open Go Go.Ab Go.RowKit

/-! ## Decimal numerals, local names -/

def decS (u : Nat) : Str := ⟨(Lib.decDigits u).toArray⟩
theorem decS_size (u : Nat) (h : u ≤ 9223372036854775807) : (decS u).size ≤ 20 := by
  have h1 : (decS u).size = (Lib.decDigits u).length := by simp [decS, ByteArray.size]
  rw [h1, Lib.decDigits_length]
  exact Lib.nDigits_le20 u (by omega)

def localS (u : Nat) : Str := ⟨#[36]⟩ ++ decS u

theorem itoa_calls (u : Nat) (hu : u ≤ 9223372036854775807) (g d : Nat) : ACalls E 78 [dN u] [] g d (encS (decS u)) [] := by
  refine acalls_grown (l := [.int .i64 (u : Int)]) Tryd.call78 fun w0 hA w hb => ?_
  have := Tryd.strconv_Itoa u (by omega) (by omega) w (tab_keeps hA hb)
  rwa [Lib.itoa_nonneg] at this

set_option maxRecDepth 100000 in
theorem local_calls (u : Nat) (hu : u ≤ 9223372036854775807) (g d : Nat) : ACalls E 64 [dN u] [] g d (encS (localS u)) [] := by
  have h0 : ¬ (u : Int) < 0 := by omega
  have h3 : 1 + (decS u).size ≤ 9223372036854775807 := by
    have := decS_size u hu
    omega
  refine acalls_of_awp (fn := Tryd.f64) (N := 8) Tryd.call64 Tryd.func64 rfl rfl (by simp) ?_
  simp only [go_sem]
  refine awp_seq_k (fun K1 hK1 => ?_)
  refine awp_plain 1 (by kernel_rfl) rfl (fun g0 hg0 => ?_)
  simp only [go_sem]
  refine hK1 _ ?_
  refine awp_seq_k (fun K2 hK2 => ?_)
  refine awp_seq_k (fun K3 hK3 => ?_)
  refine awp_plain 2 (by kernel_rfl) rfl (fun g1 hg1 => ?_)
  simp only [go_sem, h0]
  refine hK3 _ ?_
  refine awp_f rfl ?_
  refine awp_skip ?_
  refine hK2 _ ?_
  refine awp_seq_k (fun K4 hK4 => ?_)
  refine awp_ops (by kernel_rfl) rfl (fun g3 hg3 ops3 KR3 hops3 hKR3 => ?_)
  refine aops_eval 1 hops3 ?_
  simp only [go_sem]
  refine aops_pure hops3 rfl rfl rfl (itoa_calls u hu _ _) (CoL.refl _) ?_
  refine aops_last 2 hops3 ?_
  simp only [go_sem, h3]
  try simp (disch := omega) only [wrapN, wrapB, Int.tdiv_eq_ediv_of_nonneg, Int.tmod_eq_emod_of_nonneg]
  refine hKR3 _ ?_
  refine hK4 _ ?_
  refine awp_ret ?_
  refine ends_ev rfl ?_
  simp only [go_sem]
  exact Co.refl _

end Go.Proofs.T


namespace Go.Proofs.T
open Go Go.Ab Go.RowKit

/-! ## Canonical signatures -/

def locTy (i : Nat) : Ty := ⟨localS i, [], 0⟩
def locTys (n : Nat) : List Ty := (List.range n).map locTy
def toLoc (i : Nat) (f : Formal) : Formal := ⟨localS i, f.bound, f.pos⟩
def noName (p : Param) : Param := ⟨⟨#[]⟩, p.type, p.pos⟩
def ownF (s : Sig) : Ty → Ty := substTy (s.formals.map (·.name)) (locTys s.formals.length)
def canonSi (s : Sig) : Sig := ⟨s.name, (s.formals.map (mapFm (ownF s))).mapIdx toLoc, (s.params.map (mapPa (ownF s))).map noName, ownF s s.result, s.pos⟩

theorem smLoc {n : Nat} (hn : n ≤ 1000000) : ∀ t ∈ locTys n, smTy t := by
  intro t ht
  simp only [locTys, List.mem_map, List.mem_range] at ht
  obtain ⟨i, hi, rfl⟩ := ht
  have := decS_size i (by omega)
  refine (smTy_iff _).2 ⟨?_, by simp [locTy], by simp [locTy]⟩
  show (localS i).size ≤ _
  have h : (localS i).size = 1 + (decS i).size := by simp [localS, ByteArray.size_append]; rfl
  omega

def rawLoc (i : Nat) : D := .agg [.val (.string (localS i)), .val (.slice none 0 0), dI 0]
theorem coLoc (n : Nat) : Co (.sl false ((List.range n).map rawLoc)) (slTy (locTys n)) := by
  unfold slTy locTys
  rw [List.map_map]
  refine Co.map _ (fun h => h) fun i _ => ?_
  simp only [Function.comp, encTy_cells, locTy, Ty.name_mk, Ty.args_mk, Ty.pos_mk, rawLoc, List.map_nil]
  exact .cons (.refl _) (.cons (.nil _) (.cons (.refl _) .nil))

/-- Formals renamed up to here. -/
def upTo (k i : Nat) (f : Formal) : D := encFm (if i < k then toLoc i f else f)

def upP (k i : Nat) (f : Param) : D := encPa (if i < k then noName f else f)
theorem mapIdx_const {α β : Type} (f : Nat → α → β) (h : α → β) (l : List α) (hf : ∀ i a, l[i]? = some a → f i a = h a) : l.mapIdx f = l.map h := by
  apply List.ext_getElem?
  intro i
  simp only [List.getElem?_mapIdx, List.getElem?_map]
  cases hl : l[i]? with
  | none => rfl
  | some a => simp [hf i a hl]
theorem upTo_zero (l : List Formal) : l.mapIdx (upTo 0) = l.map encFm := mapIdx_const _ _ _ fun i a _ => by simp [upTo]
theorem upP_zero (l : List Param) : l.mapIdx (upP 0) = l.map encPa := mapIdx_const _ _ _ fun i a _ => by simp [upP]
theorem upTo_all (l : List Formal) : l.mapIdx (upTo l.length) = (l.mapIdx toLoc).map encFm := by
  apply List.ext_getElem?
  intro i
  simp only [List.getElem?_mapIdx, List.getElem?_map]
  cases hl : l[i]? with
  | none => rfl
  | some a => simp [upTo, (List.getElem?_eq_some_iff.1 hl).1]
theorem upP_all (l : List Param) : l.mapIdx (upP l.length) = (l.map noName).map encPa := by
  rw [List.map_map]
  exact mapIdx_const _ _ _ fun i a hl => by simp [upP, (List.getElem?_eq_some_iff.1 hl).1]
theorem upTo_get (l : List Formal) (k : Nat) (h : k < l.length) : (l.mapIdx (upTo k))[k]? = some (encFm l[k]) := by rw [getMI _ _ _ h]; simp [upTo]
theorem upP_get (l : List Param) (k : Nat) (h : k < l.length) : (l.mapIdx (upP k))[k]? = some (encPa l[k]) := by rw [getMI _ _ _ h]; simp [upP]
theorem upTo_set (l : List Formal) (k : Nat) (h : k < l.length) : (l.mapIdx (upTo k)).set k (encFm (toLoc k l[k])) = l.mapIdx (upTo (k + 1)) :=
  set_mapIdx upTo l k _ (fun a ha => by rw [List.getElem?_eq_getElem h] at ha; cases ha; simp [upTo]) (fun i a hi => by
    unfold upTo
    by_cases h : i < k
    · rw [if_pos h, if_pos (by omega)]
    · rw [if_neg h, if_neg (by omega)])
theorem upP_set (l : List Param) (k : Nat) (h : k < l.length) : (l.mapIdx (upP k)).set k (encPa (noName l[k])) = l.mapIdx (upP (k + 1)) :=
  set_mapIdx upP l k _ (fun a ha => by rw [List.getElem?_eq_getElem h] at ha; cases ha; simp [upP]) (fun i a hi => by
    unfold upP
    by_cases h : i < k
    · rw [if_pos h, if_pos (by omega)]
    · rw [if_neg h, if_neg (by omega)])
theorem canon_calls (s : Sig) (hs : smSi s) (g d : Nat) : ACalls E 37 [encSi s] [] g d (ownSi g d (canonSi s)) (newSi g d (canonSi s)) := by
  have hs0 := hs
  obtain ⟨h1, ⟨h2, h3⟩, ⟨h4, h5⟩, h6⟩ := hs
  generalize hr : ownSi g d (canonSi s) = R
  generalize hw : newSi g d (canonSi s) = W
  refine acalls_of_awp (fn := Tryd.f37) (N := 54) Tryd.call37 Tryd.func37 rfl rfl (by simp) ?_
  simp only [go_sem]
  refine awp_seq_k (fun K1 hK1 => ?_)
  refine awp_plain 2 (by kernel_rfl) rfl (fun g0 hg0 => ?_)
  simp only [go_sem]
  refine hK1 _ ?_
  refine awp_seq_k (fun K2 hK2 => ?_)
  refine awp_plain 1 (by kernel_rfl) rfl (fun g1 hg1 => ?_)
  simp only [go_sem]
  refine hK2 _ ?_
  refine awp_seq_k (fun K3 hK3 => ?_)
  refine awp_seq_k (fun K4 hK4 => ?_)
  refine awp_plain 4 (by kernel_rfl) rfl (fun g2 hg2 => ?_)
  simp only [go_sem]
  refine hK4 _ ?_
  refine awp_block ?_
  refine awp_nil 3 25 3 rfl fun gn hgn => ?_
  have hn0 : gn ≠ g0 := fresh_g hgn 1 0 (by simp [go_sem])
  refine awp_loop (fun m st => ∃ k a i, k ≤ s.formals.length ∧ m = s.formals.length - k ∧ a ≠ g0 ∧
      Le { env := [(1, .ptr ⟨g0, 1, 0⟩ 0), (2, .ptr ⟨g0, 2, 0⟩ 0), (3, .own ⟨a, i, 0⟩ k), (10, dN s.formals.length), (11, dN k)],
           σ := [(⟨g0, 1, 0⟩, .box 50 (siC s)), (⟨g0, 2, 0⟩, .box 50 zSi), (⟨a, i, 0⟩, .arr 25 3 ((List.range k).map rawLoc))] } st) s.formals.length ?_ ?_
  · refine ⟨0, gn, 0, Nat.zero_le _, rfl, hn0, le_of ?_⟩
    simp only [go_sem, zSi, hn0, Ne.symm hn0]
    trivial
  · rintro m st ⟨k, a, i, hk, rfl, ha0, hle⟩
    refine awp_keep hle ?_
    clear hle
    by_cases hlt : k < s.formals.length
    · refine awp_seq_k (fun K5 hK5 => ?_)
      refine awp_plain 1 (by kernel_rfl) rfl (fun g3 hg3 => ?_)
      simp only [go_sem, zSi, hlt]
      refine hK5 _ ?_
      refine awp_seq_k (fun K6 hK6 => ?_)
      refine awp_t rfl ?_
      refine awp_skip ?_
      refine hK6 _ ?_
      refine awp_seq_k (fun K7 hK7 => ?_)
      refine awp_block ?_
      refine awp_seq_k (fun K8 hK8 => ?_)
      refine awp_plain 2 (by kernel_rfl) rfl (fun g4 hg4 => ?_)
      simp only [go_sem]
      refine hK8 _ ?_
      refine awp_ops (by kernel_rfl) rfl (fun g5 hg5 ops5 KR5 hops5 hKR5 => ?_)
      refine aops_eval 2 hops5 ?_
      simp only [go_sem]
      refine aops_pure hops5 rfl rfl rfl (local_calls k (by omega) _ _) (CoL.refl _) ?_
      refine aops_eval 2 hops5 ?_
      simp only [go_sem]
      refine aops_app hops5 rfl rfl rfl rfl rfl es23 sz25 by25 ze25 rfl (by decide) ?_
      simp only [go_sem, Ne.symm ha0, List.length_range]
      first | refine ⟨⟨by omega, by omega⟩, ?_⟩ | skip
      refine aops_last 1 hops5 ?_
      simp only [go_sem]
      refine hKR5 _ ?_
      refine hK7 _ ?_
      have hn5_g0 : g5 ≠ g0 := fresh_g hg5 1 0 (by simp [go_sem])
      refine awp_plain 2 (by kernel_rfl) rfl (fun g6 hg6 => ?_)
      simp only [go_sem, zSi]
      try simp (disch := omega) only [wrapN]
      refine ⟨_, ?_, k + 1, g5, 19, hlt, rfl, hn5_g0, le_of ?_⟩
      · omega
      simp only [go_sem, rawLoc, hn5_g0, Ne.symm hn5_g0]
      omega
    · refine awp_seq_k (fun K9 hK9 => ?_)
      refine awp_plain 1 (by kernel_rfl) rfl (fun g3 hg3 => ?_)
      simp only [go_sem, hlt, zSi]
      refine hK9 _ ?_
      refine awp_seq_k (fun K10 hK10 => ?_)
      refine awp_f rfl ?_
      refine awp_exit ?_
      refine hK3 _ ?_
      refine awp_seq_k (fun K11 hK11 => ?_)
      have : k = s.formals.length := by omega
      subst this
      refine awp_frz ⟨a, i, 0⟩ ?_
      simp only [go_sem, Ne.symm ha0]
      refine awp_co 3 (slTy (locTys s.formals.length)) ?_
      simp only [go_sem]
      refine ⟨coLoc _, ?_⟩
      refine awp_any 7 (by kernel_rfl) (by kernel_rfl) rfl (fun g7 hg7 ops7 KR7 hops7 hKR7 => ?_)
      refine qrun_eval 3 hops7 ?_
      simp only [go_sem]
      refine qrun_pure hops7 rfl rfl rfl (names_calls _ h2 _ _) (CoL.refl _) rfl ?_
      refine qrun_eval 1 hops7 ?_
      simp only [go_sem]
      refine qrun_pure hops7 rfl rfl rfl (substSig_calls _ _ (by simpa using h2) (smLoc h2) s hs0 _ _) (CoL.refl _) (by simp [nwOk, newSi]) ?_
      refine qrun_last 1 hops7 ?_
      simp only [go_sem, ownSi, newSi, mapSi]
      refine aops_last 1 hops7 ?_
      simp only [go_sem]
      refine hKR7 _ ?_
      refine hK11 _ ?_
      refine awp_seq_k (fun K12 hK12 => ?_)
      refine awp_seq_k (fun K13 hK13 => ?_)
      refine awp_plain 4 (by kernel_rfl) rfl (fun g8 hg8 => ?_)
      simp only [go_sem]
      refine hK13 _ ?_
      refine awp_block ?_
      generalize hL : s.formals.map (mapFm (ownF s)) = L
      generalize hM : s.params.map (mapPa (ownF s)) = M
      have hLl : L.length = s.formals.length := by rw [← hL]; simp
      have hMl : M.length = s.params.length := by rw [← hM]; simp
      refine awp_loop (fun m st => ∃ k, k ≤ L.length ∧ m = L.length - k ∧
          Le { env := [(2, .ptr ⟨g0, 2, 0⟩ 0), (5, .ptr ⟨g7, 5, 0⟩ 0), (29, dN L.length), (30, dN k)],
               σ := [(⟨g0, 2, 0⟩, .box 50 zSi),
                 (⟨g7, 5, 0⟩, .box 50 [.val (.string s.name), .own ⟨g7, 26, 1⟩ L.length, .own ⟨g7, 26, 2⟩ M.length, .val (.string (ownF s s.result).name), .sl false ((ownF s s.result).args.map encTy), .val (.int .i64 (ownF s s.result).pos), .val (.int .i64 s.pos)]),
                 (⟨g7, 26, 1⟩, .arr 60 5 (L.mapIdx (upTo k))), (⟨g7, 26, 2⟩, .arr 62 5 (M.map encPa))] } st) L.length ?_ ?_
      · refine ⟨0, Nat.zero_le _, rfl, le_of ?_⟩
        subst hL hM
        simp only [go_sem, ownF, upTo_zero, zSi]
        trivial
      · rintro m st ⟨k, hk, rfl, hle⟩
        refine awp_keep hle ?_
        clear hle
        by_cases hlt : k < L.length
        · refine awp_seq_k (fun K14 hK14 => ?_)
          refine awp_plain 1 (by kernel_rfl) rfl (fun g9 hg9 => ?_)
          simp only [go_sem, zSi, hlt]
          refine hK14 _ ?_
          refine awp_seq_k (fun K15 hK15 => ?_)
          refine awp_t rfl ?_
          refine awp_skip ?_
          refine hK15 _ ?_
          refine awp_seq_k (fun K16 hK16 => ?_)
          refine awp_block ?_
          refine awp_seq_k (fun K17 hK17 => ?_)
          refine awp_plain 2 (by kernel_rfl) rfl (fun g10 hg10 => ?_)
          simp only [go_sem]
          refine hK17 _ ?_
          refine awp_any 7 (by kernel_rfl) (by kernel_rfl) rfl (fun g11 hg11 ops11 KR11 hops11 hKR11 => ?_)
          refine qrun_eval 4 hops11 ?_
          simp only [go_sem]
          refine qrun_pure hops11 rfl rfl rfl (local_calls k (by omega) _ _) (CoL.refl _) rfl ?_
          refine qrun_last 2 hops11 ?_
          simp only [go_sem, hlt]
          refine aops_last 1 hops11 ?_
          simp only [go_sem, upTo_get _ _ hlt]
          refine hKR11 _ ?_
          refine hK16 _ ?_
          refine awp_plain 2 (by kernel_rfl) rfl (fun g12 hg12 => ?_)
          simp only [go_sem, zSi]
          try simp (disch := omega) only [wrapN]
          refine ⟨_, ?_, k + 1, hlt, rfl, le_of ?_⟩
          · omega
          simp only [go_sem, ← upTo_set _ _ hlt, toLoc]
          omega
        · refine awp_seq_k (fun K18 hK18 => ?_)
          refine awp_plain 1 (by kernel_rfl) rfl (fun g9 hg9 => ?_)
          simp only [go_sem, hlt, zSi]
          refine hK18 _ ?_
          refine awp_seq_k (fun K19 hK19 => ?_)
          refine awp_f rfl ?_
          refine awp_exit ?_
          refine hK12 _ ?_
          refine awp_seq_k (fun K20 hK20 => ?_)
          refine awp_seq_k (fun K21 hK21 => ?_)
          have : k = L.length := by omega
          subst this
          refine awp_plain 4 (by kernel_rfl) rfl (fun g13 hg13 => ?_)
          simp only [go_sem]
          refine hK21 _ ?_
          refine awp_block ?_
          refine awp_loop (fun m st => ∃ k, k ≤ M.length ∧ m = M.length - k ∧
              Le { env := [(2, .ptr ⟨g0, 2, 0⟩ 0), (5, .ptr ⟨g7, 5, 0⟩ 0), (43, dN M.length), (44, dN k)],
                   σ := [(⟨g0, 2, 0⟩, .box 50 zSi),
                     (⟨g7, 5, 0⟩, .box 50 [.val (.string s.name), .own ⟨g7, 26, 1⟩ L.length, .own ⟨g7, 26, 2⟩ M.length, .val (.string (ownF s s.result).name), .sl false ((ownF s s.result).args.map encTy), .val (.int .i64 (ownF s s.result).pos), .val (.int .i64 s.pos)]),
                     (⟨g7, 26, 1⟩, .arr 60 5 (L.mapIdx (upTo L.length))), (⟨g7, 26, 2⟩, .arr 62 5 (M.mapIdx (upP k)))] } st) M.length ?_ ?_
          · refine ⟨0, Nat.zero_le _, rfl, le_of ?_⟩
            simp only [go_sem, upP_zero, zSi]
            trivial
          · rintro m st ⟨k, hk, rfl, hle⟩
            refine awp_keep hle ?_
            clear hle
            by_cases hlt : k < M.length
            · refine awp_seq_k (fun K22 hK22 => ?_)
              refine awp_plain 1 (by kernel_rfl) rfl (fun g14 hg14 => ?_)
              simp only [go_sem, zSi, hlt]
              refine hK22 _ ?_
              refine awp_seq_k (fun K23 hK23 => ?_)
              refine awp_t rfl ?_
              refine awp_skip ?_
              refine hK23 _ ?_
              refine awp_seq_k (fun K24 hK24 => ?_)
              refine awp_block ?_
              refine awp_seq_k (fun K25 hK25 => ?_)
              refine awp_plain 2 (by kernel_rfl) rfl (fun g15 hg15 => ?_)
              simp only [go_sem]
              refine hK25 _ ?_
              refine awp_plain 6 (by kernel_rfl) rfl (fun g16 hg16 => ?_)
              simp only [go_sem, upP_get _ _ hlt, hlt]
              refine hK24 _ ?_
              refine awp_plain 2 (by kernel_rfl) rfl (fun g17 hg17 => ?_)
              simp only [go_sem, zSi]
              try simp (disch := omega) only [wrapN]
              refine ⟨_, ?_, k + 1, hlt, rfl, le_of ?_⟩
              · omega
              simp only [go_sem, ← upP_set _ _ hlt, noName]
              omega
            · refine awp_seq_k (fun K26 hK26 => ?_)
              refine awp_plain 1 (by kernel_rfl) rfl (fun g14 hg14 => ?_)
              simp only [go_sem, hlt, zSi]
              refine hK26 _ ?_
              refine awp_seq_k (fun K27 hK27 => ?_)
              refine awp_f rfl ?_
              refine awp_exit ?_
              refine hK20 _ ?_
              refine awp_seq_k (fun K28 hK28 => ?_)
              have : k = M.length := by omega
              subst this
              refine awp_plain 2 (by kernel_rfl) rfl (fun g18 hg18 => ?_)
              simp only [go_sem]
              refine hK28 _ ?_
              refine awp_ret ?_
              subst hr hw
              refine ends_own [⟨g7, 26, 1⟩, ⟨g7, 26, 2⟩] rfl ?_
              simp only [go_sem, newSto, newSi, canonSi, ownSi, hL, hM, upTo_all, upP_all]
              exact Co.refl _

end Go.Proofs.T


namespace Go.Proofs.T
open Go Go.Ab Go.RowKit

/-! ## Signatures that are alike -/

/-- The lists of what is handed back are seen as lists that stay. -/
theorem frozenSi {f : FuncId} {args : List D} {g d : Nat} {s : Sig} (h : ACalls E f args [] g d (ownSi g d s) (newSi g d s)) : ACalls E f args [] g d (encSi s) [] := by
  refine h.sees ?_
  refine Sees.trans (sees_frz ⟨g, d, 1⟩ (K := fun st => st = ⟨[(0, .agg [.val (.string s.name), slFm s.formals, .own ⟨g, d, 2⟩ s.params.length, .val (.string s.result.name), .sl false (s.result.args.map encTy), .val (.int .i64 s.result.pos), .val (.int .i64 s.pos)])], [(⟨g, d, 2⟩, .arr 62 5 (s.params.map encPa))]⟩) ?_) ?_
  · simp only [go_sem, newSi, ownSi]
  · rintro _ rfl
    refine sees_frz ⟨g, d, 2⟩ ?_
    simp only [go_sem]
    exact ⟨rfl, fun p hp => nomatch hp⟩

theorem canonF_calls (s : Sig) (hs : smSi s) (g d : Nat) : ACalls E 37 [encSi s] [] g d (encSi (canonSi s)) [] := frozenSi (canon_calls s hs g d)
theorem substSigF_calls (ns : List Str) (us : List Ty) (hns : ns.length ≤ 1000000) (hus : ∀ x ∈ us, smTy x) (s : Sig) (hs : smSi s) (g d : Nat) : ACalls E 36 [encSi s, slS ns, slTy us] [] g d (encSi (mapSi (substTy ns us) s)) [] := frozenSi (substSig_calls ns us hns hus s hs g d)
def same (t u : Ty) : Bool := decide (cmpTy t u = 0)

/-- Two lists, element by element. -/
def allB {α : Type} (p : α → α → Bool) : List α → List α → Bool
  | [], [] => true
  | a :: x, b :: y => p a b && allB p x y
  | _, _ => false
theorem allB_length {α : Type} {p : α → α → Bool} : ∀ {x y : List α}, x.length ≠ y.length → allB p x y = false
  | [], [], h => absurd rfl h
  | [], _ :: _, _ => rfl
  | _ :: _, [], _ => rfl
  | a :: x, b :: y, h => by simp only [allB, allB_length (x := x) (y := y) (fun e => h (by simp [e])), Bool.and_false]

def sameFm (a b : Formal) : Bool := decide (a.name = b.name) && same a.bound b.bound
def samePa (a b : Param) : Bool := decide (a.name = b.name) && same a.type b.type
def sameSi (s t : Sig) : Bool := decide (s.name = t.name) && (allB sameFm s.formals t.formals && (allB samePa s.params t.params && same s.result t.result))


end Go.Proofs.T


namespace Go.Proofs.T
open Go Go.Ab Go.RowKit

def refFm (q : Bool) (a b : Formal) : Bool := (decide (a.name = b.name) && same a.bound b.bound) && (!q || (decide (a.pos = b.pos) && eqTy a.bound b.bound))
def refPa (q : Bool) (a b : Param) : Bool := (decide (a.name = b.name) && same a.type b.type) && (!q || (decide (a.pos = b.pos) && eqTy a.type b.type))
def refSi (q : Bool) (s t : Sig) : Bool := (decide (s.name = t.name) && (allB (refFm q) s.formals t.formals && (allB (refPa q) s.params t.params && same s.result t.result))) && (!q || (decide (s.pos = t.pos) && eqTy s.result t.result))


theorem refFormals_calls (q : Bool) (l r : List Formal) (hl : l.length ≤ 9223372036854775807) (hl2 : ∀ a ∈ l, okFm a) (g d : Nat) : ACalls E 40 [slFm l, slFm r, dB q] [] g d (dB (allB (refFm q) l r)) [] := by
  refine acalls_of_awp (fn := Tryd.f40) (N := 72) Tryd.call40 Tryd.func40 rfl rfl (by simp) ?_
  simp only [go_sem]
  refine awp_seq_k (fun K1 hK1 => ?_)
  refine awp_plain 1 (by kernel_rfl) rfl (fun g0 hg0 => ?_)
  simp only [go_sem]
  refine hK1 _ ?_
  refine awp_seq_k (fun K2 hK2 => ?_)
  refine awp_seq_k (fun K3 hK3 => ?_)
  by_cases hlen : l.length = r.length
  · have hlen' : (l.length : Int) = r.length := by omega
    refine awp_plain 5 (by kernel_rfl) rfl (fun g1 hg1 => ?_)
    simp only [go_sem, hlen']
    refine hK3 _ ?_
    refine awp_f rfl ?_
    refine awp_skip ?_
    refine hK2 _ ?_
    refine awp_seq_k (fun K4 hK4 => ?_)
    refine awp_seq_k (fun K5 hK5 => ?_)
    refine awp_plain 1 (by kernel_rfl) rfl (fun g3 hg3 => ?_)
    simp only [go_sem]
    refine hK5 _ ?_
    refine awp_block ?_
    refine awp_loop (fun m st => ∃ k, k ≤ l.length ∧ m = l.length - k ∧ allB (refFm q) (l.drop k) (r.drop k) = allB (refFm q) l r ∧
        Le { env := [(0, slFm l), (1, slFm r), (2, dB q), (7, dN k)], σ := [] } st) l.length ?_ ?_
    · refine ⟨0, Nat.zero_le _, rfl, rfl, le_of ?_⟩
      simp only [go_sem]
      trivial
    · rintro m st ⟨k, hk, rfl, hc, hle⟩
      refine awp_keep hle ?_
      clear hle
      by_cases hlt : k < l.length
      · have hlt2 : k < r.length := by omega
        rw [dropC _ _ hlt, dropC _ _ hlt2] at hc
        simp only [allB] at hc
        have g1 := getM (f := encFm) hlt
        have g2 := getM (f := encFm) hlt2
        refine awp_seq_k (fun K6 hK6 => ?_)
        refine awp_seq_k (fun K7 hK7 => ?_)
        refine awp_plain 4 (by kernel_rfl) rfl (fun g4 hg4 => ?_)
        simp only [go_sem, hlt]
        refine hK7 _ ?_
        refine awp_t rfl ?_
        refine awp_skip ?_
        refine hK6 _ ?_
        refine awp_seq_k (fun K8 hK8 => ?_)
        refine awp_block ?_
        refine awp_seq_k (fun K9 hK9 => ?_)
        refine awp_seq_k (fun K10 hK10 => ?_)
        by_cases hn : l[k].name = r[k].name
        · refine awp_anyq (by kernel_rfl) rfl (fun g6 hg6 ops6 KR6 hops6 hKR6 => ?_)
          refine qrun_eval 22 hops6 ?_
          simp only [go_sem, hn, decide_true, g1, g2]
          refine qrun_pure hops6 rfl rfl rfl (ref04Same_calls _ _ (hl2 _ (List.getElem_mem hlt)).2 _ _) (CoL.refl _) rfl ?_
          cases hs : same l[k].bound r[k].bound with
          | false =>
            refine qrun_last 2 hops6 ?_
            simp only [go_sem, show decide (cmpTy l[k].bound r[k].bound = 0) = false from hs]
            refine hKR6 _ ?_
            refine hK10 _ ?_
            refine awp_t rfl ?_
            refine awp_seq_k (fun K11 hK11 => ?_)
            refine awp_plain 1 (by kernel_rfl) rfl (fun g7 hg7 => ?_)
            simp only [go_sem]
            refine hK11 _ ?_
            refine awp_ret ?_
            rw [show refFm q l[k] r[k] = false by simp [refFm, hs]] at hc
            rw [Bool.false_and] at hc
            rw [← hc]
            refine ends_ev rfl ?_
            simp only [go_sem]
            exact Co.refl _
          | true =>
            refine qrun_last 2 hops6 ?_
            simp only [go_sem, show decide (cmpTy l[k].bound r[k].bound = 0) = true from hs]
            refine hKR6 _ ?_
            refine hK10 _ ?_
            refine awp_f rfl ?_
            refine awp_skip ?_
            refine hK9 _ ?_
            refine awp_seq_k (fun K12 hK12 => ?_)
            cases q with
            | false =>
              refine awp_anyq (by kernel_rfl) rfl (fun g8 hg8 ops8 KR8 hops8 hKR8 => ?_)
              refine qrun_last 28 hops8 ?_
              simp only [go_sem]
              refine hKR8 _ ?_
              refine hK12 _ ?_
              refine awp_f rfl ?_
              refine awp_skip ?_
              refine hK8 _ ?_
              refine awp_plain 3 (by kernel_rfl) rfl (fun g5 hg5 => ?_)
              simp only [go_sem]
              try simp (disch := omega) only [wrapN]
              rw [show refFm false l[k] r[k] = true by simp [refFm, hs, hn]] at hc
              rw [Bool.true_and] at hc
              refine ⟨_, ?_, k + 1, hlt, rfl, hc, le_of ?_⟩
              · omega
              simp only [go_sem]
              omega
            | true =>
              by_cases hp : l[k].pos = r[k].pos
              · refine awp_anyq (by kernel_rfl) rfl (fun g8 hg8 ops8 KR8 hops8 hKR8 => ?_)
                refine qrun_eval 24 hops8 ?_
                simp only [go_sem, hp, decide_true, g1, g2]
                refine qrun_pure hops8 rfl rfl rfl (ref04Equal_calls _ (hl2 _ (List.getElem_mem hlt)).2 _ _ _) (CoL.refl _) rfl ?_
                cases he : eqTy l[k].bound r[k].bound with
                | true =>
                  refine qrun_last 3 hops8 ?_
                  simp only [go_sem]
                  refine hKR8 _ ?_
                  refine hK12 _ ?_
                  refine awp_f rfl ?_
                  refine awp_skip ?_
                  refine hK8 _ ?_
                  refine awp_plain 3 (by kernel_rfl) rfl (fun g5 hg5 => ?_)
                  simp only [go_sem]
                  try simp (disch := omega) only [wrapN]
                  rw [show refFm true l[k] r[k] = true by simp [refFm, hs, hn, hp, he]] at hc
                  rw [Bool.true_and] at hc
                  refine ⟨_, ?_, k + 1, hlt, rfl, hc, le_of ?_⟩
                  · omega
                  simp only [go_sem]
                  omega
                | false =>
                  refine qrun_last 3 hops8 ?_
                  simp only [go_sem]
                  refine hKR8 _ ?_
                  refine hK12 _ ?_
                  refine awp_t rfl ?_
                  refine awp_seq_k (fun K13 hK13 => ?_)
                  refine awp_plain 1 (by kernel_rfl) rfl (fun g9 hg9 => ?_)
                  simp only [go_sem]
                  refine hK13 _ ?_
                  refine awp_ret ?_
                  rw [show refFm true l[k] r[k] = false by simp [refFm, hs, hn, hp, he]] at hc
                  rw [Bool.false_and] at hc
                  rw [← hc]
                  refine ends_ev rfl ?_
                  simp only [go_sem]
                  exact Co.refl _
              · refine awp_anyq (by kernel_rfl) rfl (fun g8 hg8 ops8 KR8 hops8 hKR8 => ?_)
                refine qrun_last 28 hops8 ?_
                simp only [go_sem, hp, g1, g2]
                refine hKR8 _ ?_
                refine hK12 _ ?_
                refine awp_t rfl ?_
                refine awp_seq_k (fun K14 hK14 => ?_)
                refine awp_plain 1 (by kernel_rfl) rfl (fun g9 hg9 => ?_)
                simp only [go_sem]
                refine hK14 _ ?_
                refine awp_ret ?_
                rw [show refFm true l[k] r[k] = false by simp [refFm, hs, hn, hp]] at hc
                rw [Bool.false_and] at hc
                rw [← hc]
                refine ends_ev rfl ?_
                simp only [go_sem]
                exact Co.refl _
        · refine awp_anyq (by kernel_rfl) rfl (fun g6 hg6 ops6 KR6 hops6 hKR6 => ?_)
          refine qrun_last 25 hops6 ?_
          simp only [go_sem, hn, g1, g2]
          refine hKR6 _ ?_
          refine hK10 _ ?_
          refine awp_t rfl ?_
          refine awp_seq_k (fun K15 hK15 => ?_)
          refine awp_plain 1 (by kernel_rfl) rfl (fun g7 hg7 => ?_)
          simp only [go_sem]
          refine hK15 _ ?_
          refine awp_ret ?_
          rw [show refFm q l[k] r[k] = false by simp [refFm, hn]] at hc
          rw [Bool.false_and] at hc
          rw [← hc]
          refine ends_ev rfl ?_
          simp only [go_sem]
          exact Co.refl _
      · rw [dropN _ _ (by omega), dropN _ _ (by omega)] at hc
        simp only [allB] at hc
        refine awp_seq_k (fun K16 hK16 => ?_)
        refine awp_seq_k (fun K17 hK17 => ?_)
        refine awp_plain 4 (by kernel_rfl) rfl (fun g4 hg4 => ?_)
        simp only [go_sem, hlt]
        refine hK17 _ ?_
        refine awp_f rfl ?_
        refine awp_exit ?_
        refine hK4 _ ?_
        refine awp_seq_k (fun K18 hK18 => ?_)
        refine awp_plain 1 (by kernel_rfl) rfl (fun g10 hg10 => ?_)
        simp only [go_sem]
        refine hK18 _ ?_
        refine awp_ret ?_
        rw [← hc]
        refine ends_ev rfl ?_
        simp only [go_sem]
        exact Co.refl _
  · have hlen' : ¬ (l.length : Int) = r.length := by omega
    refine awp_plain 5 (by kernel_rfl) rfl (fun g1 hg1 => ?_)
    simp only [go_sem, hlen']
    refine hK3 _ ?_
    refine awp_t rfl ?_
    refine awp_seq_k (fun K19 hK19 => ?_)
    refine awp_plain 1 (by kernel_rfl) rfl (fun g2 hg2 => ?_)
    simp only [go_sem]
    refine hK19 _ ?_
    refine awp_ret ?_
    rw [allB_length hlen]
    refine ends_ev rfl ?_
    simp only [go_sem]
    exact Co.refl _

theorem refParams_calls (q : Bool) (l r : List Param) (hl : l.length ≤ 9223372036854775807) (hl2 : ∀ a ∈ l, okPa a) (g d : Nat) : ACalls E 41 [slPa l, slPa r, dB q] [] g d (dB (allB (refPa q) l r)) [] := by
  refine acalls_of_awp (fn := Tryd.f41) (N := 72) Tryd.call41 Tryd.func41 rfl rfl (by simp) ?_
  simp only [go_sem]
  refine awp_seq_k (fun K1 hK1 => ?_)
  refine awp_plain 1 (by kernel_rfl) rfl (fun g0 hg0 => ?_)
  simp only [go_sem]
  refine hK1 _ ?_
  refine awp_seq_k (fun K2 hK2 => ?_)
  refine awp_seq_k (fun K3 hK3 => ?_)
  by_cases hlen : l.length = r.length
  · have hlen' : (l.length : Int) = r.length := by omega
    refine awp_plain 5 (by kernel_rfl) rfl (fun g1 hg1 => ?_)
    simp only [go_sem, hlen']
    refine hK3 _ ?_
    refine awp_f rfl ?_
    refine awp_skip ?_
    refine hK2 _ ?_
    refine awp_seq_k (fun K4 hK4 => ?_)
    refine awp_seq_k (fun K5 hK5 => ?_)
    refine awp_plain 1 (by kernel_rfl) rfl (fun g3 hg3 => ?_)
    simp only [go_sem]
    refine hK5 _ ?_
    refine awp_block ?_
    refine awp_loop (fun m st => ∃ k, k ≤ l.length ∧ m = l.length - k ∧ allB (refPa q) (l.drop k) (r.drop k) = allB (refPa q) l r ∧
        Le { env := [(0, slPa l), (1, slPa r), (2, dB q), (7, dN k)], σ := [] } st) l.length ?_ ?_
    · refine ⟨0, Nat.zero_le _, rfl, rfl, le_of ?_⟩
      simp only [go_sem]
      trivial
    · rintro m st ⟨k, hk, rfl, hc, hle⟩
      refine awp_keep hle ?_
      clear hle
      by_cases hlt : k < l.length
      · have hlt2 : k < r.length := by omega
        rw [dropC _ _ hlt, dropC _ _ hlt2] at hc
        simp only [allB] at hc
        have g1 := getM (f := encPa) hlt
        have g2 := getM (f := encPa) hlt2
        refine awp_seq_k (fun K6 hK6 => ?_)
        refine awp_seq_k (fun K7 hK7 => ?_)
        refine awp_plain 4 (by kernel_rfl) rfl (fun g4 hg4 => ?_)
        simp only [go_sem, hlt]
        refine hK7 _ ?_
        refine awp_t rfl ?_
        refine awp_skip ?_
        refine hK6 _ ?_
        refine awp_seq_k (fun K8 hK8 => ?_)
        refine awp_block ?_
        refine awp_seq_k (fun K9 hK9 => ?_)
        refine awp_seq_k (fun K10 hK10 => ?_)
        by_cases hn : l[k].name = r[k].name
        · refine awp_anyq (by kernel_rfl) rfl (fun g6 hg6 ops6 KR6 hops6 hKR6 => ?_)
          refine qrun_eval 22 hops6 ?_
          simp only [go_sem, hn, decide_true, g1, g2]
          refine qrun_pure hops6 rfl rfl rfl (ref04Same_calls _ _ (hl2 _ (List.getElem_mem hlt)).2 _ _) (CoL.refl _) rfl ?_
          cases hs : same l[k].type r[k].type with
          | false =>
            refine qrun_last 2 hops6 ?_
            simp only [go_sem, show decide (cmpTy l[k].type r[k].type = 0) = false from hs]
            refine hKR6 _ ?_
            refine hK10 _ ?_
            refine awp_t rfl ?_
            refine awp_seq_k (fun K11 hK11 => ?_)
            refine awp_plain 1 (by kernel_rfl) rfl (fun g7 hg7 => ?_)
            simp only [go_sem]
            refine hK11 _ ?_
            refine awp_ret ?_
            rw [show refPa q l[k] r[k] = false by simp [refPa, hs]] at hc
            rw [Bool.false_and] at hc
            rw [← hc]
            refine ends_ev rfl ?_
            simp only [go_sem]
            exact Co.refl _
          | true =>
            refine qrun_last 2 hops6 ?_
            simp only [go_sem, show decide (cmpTy l[k].type r[k].type = 0) = true from hs]
            refine hKR6 _ ?_
            refine hK10 _ ?_
            refine awp_f rfl ?_
            refine awp_skip ?_
            refine hK9 _ ?_
            refine awp_seq_k (fun K12 hK12 => ?_)
            cases q with
            | false =>
              refine awp_anyq (by kernel_rfl) rfl (fun g8 hg8 ops8 KR8 hops8 hKR8 => ?_)
              refine qrun_last 28 hops8 ?_
              simp only [go_sem]
              refine hKR8 _ ?_
              refine hK12 _ ?_
              refine awp_f rfl ?_
              refine awp_skip ?_
              refine hK8 _ ?_
              refine awp_plain 3 (by kernel_rfl) rfl (fun g5 hg5 => ?_)
              simp only [go_sem]
              try simp (disch := omega) only [wrapN]
              rw [show refPa false l[k] r[k] = true by simp [refPa, hs, hn]] at hc
              rw [Bool.true_and] at hc
              refine ⟨_, ?_, k + 1, hlt, rfl, hc, le_of ?_⟩
              · omega
              simp only [go_sem]
              omega
            | true =>
              by_cases hp : l[k].pos = r[k].pos
              · refine awp_anyq (by kernel_rfl) rfl (fun g8 hg8 ops8 KR8 hops8 hKR8 => ?_)
                refine qrun_eval 24 hops8 ?_
                simp only [go_sem, hp, decide_true, g1, g2]
                refine qrun_pure hops8 rfl rfl rfl (ref04Equal_calls _ (hl2 _ (List.getElem_mem hlt)).2 _ _ _) (CoL.refl _) rfl ?_
                cases he : eqTy l[k].type r[k].type with
                | true =>
                  refine qrun_last 3 hops8 ?_
                  simp only [go_sem]
                  refine hKR8 _ ?_
                  refine hK12 _ ?_
                  refine awp_f rfl ?_
                  refine awp_skip ?_
                  refine hK8 _ ?_
                  refine awp_plain 3 (by kernel_rfl) rfl (fun g5 hg5 => ?_)
                  simp only [go_sem]
                  try simp (disch := omega) only [wrapN]
                  rw [show refPa true l[k] r[k] = true by simp [refPa, hs, hn, hp, he]] at hc
                  rw [Bool.true_and] at hc
                  refine ⟨_, ?_, k + 1, hlt, rfl, hc, le_of ?_⟩
                  · omega
                  simp only [go_sem]
                  omega
                | false =>
                  refine qrun_last 3 hops8 ?_
                  simp only [go_sem]
                  refine hKR8 _ ?_
                  refine hK12 _ ?_
                  refine awp_t rfl ?_
                  refine awp_seq_k (fun K13 hK13 => ?_)
                  refine awp_plain 1 (by kernel_rfl) rfl (fun g9 hg9 => ?_)
                  simp only [go_sem]
                  refine hK13 _ ?_
                  refine awp_ret ?_
                  rw [show refPa true l[k] r[k] = false by simp [refPa, hs, hn, hp, he]] at hc
                  rw [Bool.false_and] at hc
                  rw [← hc]
                  refine ends_ev rfl ?_
                  simp only [go_sem]
                  exact Co.refl _
              · refine awp_anyq (by kernel_rfl) rfl (fun g8 hg8 ops8 KR8 hops8 hKR8 => ?_)
                refine qrun_last 28 hops8 ?_
                simp only [go_sem, hp, g1, g2]
                refine hKR8 _ ?_
                refine hK12 _ ?_
                refine awp_t rfl ?_
                refine awp_seq_k (fun K14 hK14 => ?_)
                refine awp_plain 1 (by kernel_rfl) rfl (fun g9 hg9 => ?_)
                simp only [go_sem]
                refine hK14 _ ?_
                refine awp_ret ?_
                rw [show refPa true l[k] r[k] = false by simp [refPa, hs, hn, hp]] at hc
                rw [Bool.false_and] at hc
                rw [← hc]
                refine ends_ev rfl ?_
                simp only [go_sem]
                exact Co.refl _
        · refine awp_anyq (by kernel_rfl) rfl (fun g6 hg6 ops6 KR6 hops6 hKR6 => ?_)
          refine qrun_last 25 hops6 ?_
          simp only [go_sem, hn, g1, g2]
          refine hKR6 _ ?_
          refine hK10 _ ?_
          refine awp_t rfl ?_
          refine awp_seq_k (fun K15 hK15 => ?_)
          refine awp_plain 1 (by kernel_rfl) rfl (fun g7 hg7 => ?_)
          simp only [go_sem]
          refine hK15 _ ?_
          refine awp_ret ?_
          rw [show refPa q l[k] r[k] = false by simp [refPa, hn]] at hc
          rw [Bool.false_and] at hc
          rw [← hc]
          refine ends_ev rfl ?_
          simp only [go_sem]
          exact Co.refl _
      · rw [dropN _ _ (by omega), dropN _ _ (by omega)] at hc
        simp only [allB] at hc
        refine awp_seq_k (fun K16 hK16 => ?_)
        refine awp_seq_k (fun K17 hK17 => ?_)
        refine awp_plain 4 (by kernel_rfl) rfl (fun g4 hg4 => ?_)
        simp only [go_sem, hlt]
        refine hK17 _ ?_
        refine awp_f rfl ?_
        refine awp_exit ?_
        refine hK4 _ ?_
        refine awp_seq_k (fun K18 hK18 => ?_)
        refine awp_plain 1 (by kernel_rfl) rfl (fun g10 hg10 => ?_)
        simp only [go_sem]
        refine hK18 _ ?_
        refine awp_ret ?_
        rw [← hc]
        refine ends_ev rfl ?_
        simp only [go_sem]
        exact Co.refl _
  · have hlen' : ¬ (l.length : Int) = r.length := by omega
    refine awp_plain 5 (by kernel_rfl) rfl (fun g1 hg1 => ?_)
    simp only [go_sem, hlen']
    refine hK3 _ ?_
    refine awp_t rfl ?_
    refine awp_seq_k (fun K19 hK19 => ?_)
    refine awp_plain 1 (by kernel_rfl) rfl (fun g2 hg2 => ?_)
    simp only [go_sem]
    refine hK19 _ ?_
    refine awp_ret ?_
    rw [allB_length hlen]
    refine ends_ev rfl ?_
    simp only [go_sem]
    exact Co.refl _

end Go.Proofs.T

