/- A part of the proof, under no conditions of its own: ZAP. -/
import Derived.Test.YtjicgnbcelhoiaaGreatDoorZAO
import Derived.Test.YtjicgnbcelhoiaaGreatDoorZAN
import Derived.Test.YtjicgnbcelhoiaaGreatDoorZAM
namespace Go.Proofs.T
open Go Go.Ab Go.RowKit
noncomputable def typed (e : Ex) : Bool := decide (e.kind = 3) || decide (e.kind = 5)
noncomputable def kidsOk (e : Ex) : Bool :=
 if e.kind = 1 then decide ((e.kids.length : Int) = 0) else if e.kind = 2 then decide ((e.kids.length : Int) ≥ 1) else if e.kind = 3 then true else if e.kind = 4 ∨ e.kind = 5 then decide ((e.kids.length : Int) = 1) else false
noncomputable def typOk (e : Ex) : Bool :=
 if typed e then rightTy e.type && decide (e.name = (⟨#[]⟩ : ByteArray)) else !rightTy e.type && (decide (e.type.name = (⟨#[]⟩ : ByteArray)) && (decide (e.type.args.length = 0) && nmOk e.name))
noncomputable def headOk (e : Ex) : Bool := e.targs.all (fun t => decide (e.kind = 2) && rightTy t) && (typOk e && kidsOk e)
mutual
noncomputable def rightEx : Ex → Bool
 | .mk k n t ta ks p => rightExs ks && headOk (.mk k n t ta ks p)
noncomputable def rightExs : List Ex → Bool
 | [] => true
 | e :: r => rightEx e && rightExs r
end
theorem rightExs_all : ∀ l, rightExs l = l.all rightEx
 | [] => rfl
 | e :: r => by rw [rightExs, rightExs_all r]; rfl
theorem rightEx_eq (e : Ex) : rightEx e = (e.kids.all rightEx && headOk e) := by
 cases e
 rw [rightEx, rightExs_all]
 rfl
theorem wN_kid {e x : Ex} (h : x ∈ e.kids) : wN (exTys x) ≤ wN (exTys e) := by
 rw [exTys_eq e, wN_app]
 have : ∀ l : List Ex, x ∈ l → wN (exTys x) ≤ wN (l.flatMap exTys) := by
  intro l
  induction l with
  | nil => intro h; cases h
  | cons y r ih =>
   intro h
   rw [List.flatMap_cons, wN_app]
   rcases List.mem_cons.1 h with rfl | h
   ·omega
   ·have := ih h; omega
 have := this e.kids h
 omega
theorem wN_type (e : Ex) : (namesTy e.type).length ≤ wN (exTys e) := by
 refine wN_mem ?_
 rw [exTys_eq]
 simp
theorem wN_targ {e : Ex} {t : Ty} (h : t ∈ e.targs) : (namesTy t).length ≤ wN (exTys e) := by
 refine wN_mem ?_
 rw [exTys_eq]
 simp [h]
set_option maxRecDepth 100000 in
theorem rightEx_calls : ∀ e : Ex, okEx e → wN (exTys e) ≤ 1000000 → ∀ g d, ACalls E 51 [encEx e] [] g d (dB (rightEx e)) [] := by
 refine Ex.ind fun e ih he hw g d => ?_
 obtain ⟨h1, h2, ⟨h3, h4⟩, h5, h6⟩ := (okEx_iff e).1 he
 refine acalls_of_awp (fn := Tryz.f51) (N := 108) Tryz.call51 Tryz.func51 rfl rfl (by simp) ?_
 simp only [go_sem]
 refine awp_seq_k (fun K1 hK1 => ?_)
 refine awp_plain 2 (by kernel_rfl) rfl (fun g0 hg0 => ?_)
 simp only [go_sem]
 refine hK1 _ ?_
 refine awp_seq_k (fun K2 hK2 => ?_)
 refine awp_seq_k (fun K3 hK3 => ?_)
 refine awp_plain 1 (by kernel_rfl) rfl (fun g1 hg1 => ?_)
 simp only [go_sem]
 refine hK3 _ ?_
 refine awp_block ?_
 refine awp_loop (fun m s => ∃ k, k ≤ e.kids.length ∧ m = e.kids.length - k ∧ (e.kids.take k).all rightEx = true ∧ Le { env := [(1, .ptr ⟨g0, 1, 0⟩ 0), (3, dN k)], σ := [(⟨g0, 1, 0⟩, .box 28 (exC e))] } s) e.kids.length ?_ ?_
 ·refine ⟨0, Nat.zero_le _, rfl, rfl, le_of ?_⟩
  simp only [go_sem]
  trivial
 ·rintro m s ⟨k, hk, rfl, hall, hle⟩
  refine awp_keep hle ?_
  clear hle
  refine awp_seq_k (fun K4 hK4 => ?_)
  refine awp_seq_k (fun K5 hK5 => ?_)
  by_cases hlt : k < e.kids.length
  ·have htake : (e.kids.take (k + 1)).all rightEx = rightEx e.kids[k] := by
    rw [List.take_add_one, List.getElem?_eq_getElem hlt, List.all_append, hall]
    simp
   refine awp_plain 5 (by kernel_rfl) rfl (fun g2 hg2 => ?_)
   simp only [go_sem, hlt]
   refine hK5 _ ?_
   refine awp_t rfl ?_
   refine awp_skip ?_
   refine hK4 _ ?_
   refine awp_seq_k (fun K6 hK6 => ?_)
   refine awp_block ?_
   refine awp_seq_k (fun K7 hK7 => ?_)
   refine awp_ops (by kernel_rfl) rfl (fun g4 hg4 ops4 KR4 hops4 hKR4 => ?_)
   refine aops_eval 5 hops4 ?_
   simp only [go_sem, getM hlt]
   cases hb : rightEx e.kids[k] with
   | false =>
    have hf : rightEx e = false := by
     rw [rightEx_eq]
     have : e.kids.all rightEx = false := by
      rw [List.all_eq_false]
      exact ⟨_, List.getElem_mem hlt, by rw [hb]; decide⟩
     rw [this]; rfl
    refine aops_pure hops4 rfl rfl rfl (ih _ (List.getElem_mem hlt) (h6 _ (List.getElem_mem hlt)) (Nat.le_trans (wN_kid (List.getElem_mem hlt)) hw) _ _) (CoL.refl _) ?_
    refine aops_last 1 hops4 ?_
    simp only [go_sem, hb, Bool.not_false]
    refine hKR4 _ ?_
    refine hK7 _ ?_
    refine awp_t rfl ?_
    refine awp_seq_k (fun K8 hK8 => ?_)
    refine awp_plain 1 (by kernel_rfl) rfl (fun g5 hg5 => ?_)
    simp only [go_sem]
    refine hK8 _ ?_
    refine awp_ret ?_
    refine ends_ev rfl ?_
    simp only [go_sem]
    exact Co.of_eq (by rw [hf])
   | true =>
    refine aops_pure hops4 rfl rfl rfl (ih _ (List.getElem_mem hlt) (h6 _ (List.getElem_mem hlt)) (Nat.le_trans (wN_kid (List.getElem_mem hlt)) hw) _ _) (CoL.refl _) ?_
    refine aops_last 1 hops4 ?_
    simp only [go_sem, hb, Bool.not_true]
    refine hKR4 _ ?_
    refine hK7 _ ?_
    refine awp_f rfl ?_
    refine awp_skip ?_
    refine hK6 _ ?_
    refine awp_plain 3 (by kernel_rfl) rfl (fun g3 hg3 => ?_)
    simp only [go_sem]
    try simp (disch := omega) only [wrapN]
    refine ⟨_, ?_, k + 1, hlt, rfl, by rw [htake, hb], le_of ?_⟩
    ·omega
    simp only [go_sem]
    omega
  ·have : k = e.kids.length := by omega
   subst this
   rw [List.take_length] at hall
   refine awp_plain 5 (by kernel_rfl) rfl (fun g2 hg2 => ?_)
   simp only [go_sem, hlt]
   refine hK5 _ ?_
   refine awp_f rfl ?_
   refine awp_exit ?_
   refine hK2 _ ?_
   refine awp_seq_k (fun K9 hK9 => ?_)
   refine awp_seq_k (fun K10 hK10 => ?_)
   refine awp_plain 1 (by kernel_rfl) rfl (fun g6 hg6 => ?_)
   simp only [go_sem]
   refine hK10 _ ?_
   refine awp_block ?_
   refine awp_loop (fun m s => ∃ k, k ≤ e.targs.length ∧ m = e.targs.length - k ∧ (e.targs.take k).all (fun t => decide (e.kind = 2) && rightTy t) = true ∧ Le { env := [(1, .ptr ⟨g0, 1, 0⟩ 0), (4, dN k)], σ := [(⟨g0, 1, 0⟩, .box 28 (exC e))] } s) e.targs.length ?_ ?_
   ·refine ⟨0, Nat.zero_le _, rfl, rfl, le_of ?_⟩
    simp only [go_sem]
    trivial
   ·rintro m s ⟨k, hk, rfl, hall2, hle⟩
    refine awp_keep hle ?_
    clear hle
    refine awp_seq_k (fun K11 hK11 => ?_)
    refine awp_seq_k (fun K12 hK12 => ?_)
    by_cases hlt : k < e.targs.length
    ·have htake : (e.targs.take (k + 1)).all (fun t => decide (e.kind = 2) && rightTy t) = (decide (e.kind = 2) && rightTy e.targs[k]) := by
      rw [List.take_add_one, List.getElem?_eq_getElem hlt, List.all_append, hall2]
      simp
     refine awp_plain 5 (by kernel_rfl) rfl (fun g7 hg7 => ?_)
     simp only [go_sem, hlt]
     refine hK12 _ ?_
     refine awp_t rfl ?_
     refine awp_skip ?_
     refine hK11 _ ?_
     refine awp_seq_k (fun K13 hK13 => ?_)
     refine awp_block ?_
     refine awp_seq_k (fun K14 hK14 => ?_)
     by_cases k2 : e.kind = 2
     ·cases hb : rightTy e.targs[k] with
      | false =>
       have hbad : headOk e = false := by
        unfold headOk
        rw [List.all_eq_false.2 ⟨_, List.getElem_mem hlt, by simp only [hb, Bool.and_false]; decide⟩]
        rfl
       refine awp_ops (by kernel_rfl) rfl (fun g9 hg9 ops9 KR9 hops9 hKR9 => ?_)
       refine aops_eval 9 hops9 ?_
       simp only [go_sem, getM hlt, k2, decide_true, Bool.not_true]
       refine aops_pure hops9 rfl rfl rfl (right04_calls _ (h4 _ (List.getElem_mem hlt)) (Nat.le_trans (wN_targ (List.getElem_mem hlt)) hw) _ _) (CoL.refl _) ?_
       refine aops_last 2 hops9 ?_
       simp only [go_sem, hb, Bool.not_false]
       refine hKR9 _ ?_
       refine hK14 _ ?_
       refine awp_t rfl ?_
       refine awp_seq_k (fun K15 hK15 => ?_)
       refine awp_plain 1 (by kernel_rfl) rfl (fun g10 hg10 => ?_)
       simp only [go_sem]
       refine hK15 _ ?_
       refine awp_ret ?_
       refine ends_ev rfl ?_
       simp only [go_sem]
       exact Co.of_eq (by rw [rightEx_eq, hbad, Bool.and_false])
      | true =>
       refine awp_ops (by kernel_rfl) rfl (fun g9 hg9 ops9 KR9 hops9 hKR9 => ?_)
       refine aops_eval 9 hops9 ?_
       simp only [go_sem, getM hlt, k2, decide_true, Bool.not_true]
       refine aops_pure hops9 rfl rfl rfl (right04_calls _ (h4 _ (List.getElem_mem hlt)) (Nat.le_trans (wN_targ (List.getElem_mem hlt)) hw) _ _) (CoL.refl _) ?_
       refine aops_last 2 hops9 ?_
       simp only [go_sem, hb, Bool.not_true]
       refine hKR9 _ ?_
       refine hK14 _ ?_
       refine awp_f rfl ?_
       refine awp_skip ?_
       refine hK13 _ ?_
       refine awp_plain 3 (by kernel_rfl) rfl (fun g8 hg8 => ?_)
       simp only [go_sem]
       try simp (disch := omega) only [wrapN]
       refine ⟨_, ?_, k + 1, hlt, rfl, by rw [htake, hb]; simp [k2], le_of ?_⟩
       ·omega
       simp only [go_sem, k2]
       try trivial
       try omega
     ·have hbad : headOk e = false := by
       unfold headOk
       rw [List.all_eq_false.2 ⟨_, List.getElem_mem hlt, by simp [k2]⟩]
       rfl
      refine awp_plain 12 (by kernel_rfl) rfl (fun g9 hg9 => ?_)
      simp only [go_sem, k2, decide_false, Bool.not_false]
      refine hK14 _ ?_
      refine awp_t rfl ?_
      refine awp_seq_k (fun K16 hK16 => ?_)
      refine awp_plain 1 (by kernel_rfl) rfl (fun g10 hg10 => ?_)
      simp only [go_sem]
      refine hK16 _ ?_
      refine awp_ret ?_
      refine ends_ev rfl ?_
      simp only [go_sem]
      exact Co.of_eq (by rw [rightEx_eq, hbad, Bool.and_false])
    ·have : k = e.targs.length := by omega
     subst this
     rw [List.take_length] at hall2
     refine awp_plain 5 (by kernel_rfl) rfl (fun g7 hg7 => ?_)
     simp only [go_sem, hlt]
     refine hK12 _ ?_
     refine awp_f rfl ?_
     refine awp_exit ?_
     refine hK9 _ ?_
     refine awp_seq_k (fun K17 hK17 => ?_)
     have hR : rightEx e = (typOk e && kidsOk e) := by
      rw [rightEx_eq, hall]
      unfold headOk
      rw [hall2]
      rfl
     by_cases k3 : e.kind = 3
     ·have q3 : (e.kind = 3) = True := eq_true k3
      have q5 : (e.kind = 5) = False := eq_false (by omega)
      have q1 : (e.kind = 1) = False := eq_false (by omega)
      have q2 : (e.kind = 2) = False := eq_false (by omega)
      cases hr : rightTy e.type with
      | false =>
       refine awp_plain 9 (by kernel_rfl) rfl (fun g11 hg11 => ?_)
       simp only [go_sem, q3, decide_true]
       refine hK17 _ ?_
       refine awp_seq_k (fun K18 hK18 => ?_)
       refine awp_seq_k (fun K19 hK19 => ?_)
       refine awp_ops (by kernel_rfl) rfl (fun g12 hg12 ops12 KR12 hops12 hKR12 => ?_)
       refine aops_eval 3 hops12 ?_
       simp only [go_sem]
       refine aops_pure hops12 rfl rfl rfl (right04_calls _ h2 (Nat.le_trans (wN_type e) hw) _ _) (CoL.refl _) ?_
       refine aops_last 18 hops12 ?_
       simp only [go_sem, hr, decide_false, Bool.not_true, Bool.not_false]
       refine hKR12 _ ?_
       refine hK19 _ ?_
       refine awp_t rfl ?_
       refine awp_seq_k (fun K20 hK20 => ?_)
       refine awp_plain 1 (by kernel_rfl) rfl (fun g13 hg13 => ?_)
       simp only [go_sem]
       refine hK20 _ ?_
       refine awp_ret ?_
       refine ends_ev rfl ?_
       simp only [go_sem]
       exact Co.of_eq (by rw [hR]; simp [typOk, kidsOk, typed, k3, hr])
      | true =>
       refine awp_plain 9 (by kernel_rfl) rfl (fun g11 hg11 => ?_)
       simp only [go_sem, q3, decide_true]
       refine hK17 _ ?_
       refine awp_seq_k (fun K21 hK21 => ?_)
       refine awp_seq_k (fun K22 hK22 => ?_)
       refine awp_ops (by kernel_rfl) rfl (fun g12 hg12 ops12 KR12 hops12 hKR12 => ?_)
       refine aops_eval 3 hops12 ?_
       simp only [go_sem]
       refine aops_pure hops12 rfl rfl rfl (right04_calls _ h2 (Nat.le_trans (wN_type e) hw) _ _) (CoL.refl _) ?_
       refine aops_last 18 hops12 ?_
       simp only [go_sem, hr, decide_true, Bool.not_true]
       refine hKR12 _ ?_
       refine hK22 _ ?_
       refine awp_f rfl ?_
       refine awp_skip ?_
       refine hK21 _ ?_
       refine awp_seq_k (fun K23 hK23 => ?_)
       refine awp_seq_k (fun K24 hK24 => ?_)
       by_cases hn : e.name = (⟨#[]⟩ : ByteArray)
       ·have hn' : (e.name = (⟨#[]⟩ : ByteArray)) = True := eq_true hn
        refine awp_plain 16 (by kernel_rfl) rfl (fun g14 hg14 => ?_)
        simp only [go_sem, hn', decide_true, Bool.not_true]
        refine hK24 _ ?_
        refine awp_f rfl ?_
        refine awp_skip ?_
        refine hK23 _ ?_
        refine awp_seq_k (fun K25 hK25 => ?_)
        refine awp_seq_k (fun K26 hK26 => ?_)
        refine awp_plain 2 (by kernel_rfl) rfl (fun g16 hg16 => ?_)
        simp only [go_sem]
        refine hK26 _ ?_
        refine awp_block ?_
        refine awp_seq_k (fun K27 hK27 => ?_)
        refine awp_plain 2 (by kernel_rfl) rfl (fun g17 hg17 => ?_)
        simp only [go_sem, q1, decide_false]
        refine hK27 _ ?_
        refine awp_f rfl ?_
        refine awp_seq_k (fun K28 hK28 => ?_)
        refine awp_plain 2 (by kernel_rfl) rfl (fun g19 hg19 => ?_)
        simp only [go_sem, q2, decide_false]
        refine hK28 _ ?_
        refine awp_f rfl ?_
        refine awp_seq_k (fun K29 hK29 => ?_)
        refine awp_plain 2 (by kernel_rfl) rfl (fun g21 hg21 => ?_)
        simp only [go_sem, q3, decide_true]
        refine hK29 _ ?_
        refine awp_t rfl ?_
        refine awp_seq_k (fun K30 hK30 => ?_)
        refine awp_plain 1 (by kernel_rfl) rfl (fun g22 hg22 => ?_)
        simp only [go_sem]
        refine hK30 _ ?_
        refine awp_ret ?_
        refine ends_ev rfl ?_
        simp only [go_sem]
        exact Co.of_eq (by rw [hR]; simp [typOk, kidsOk, typed, k3, hr, hn])
       ·have hn' : (e.name = (⟨#[]⟩ : ByteArray)) = False := eq_false hn
        refine awp_plain 16 (by kernel_rfl) rfl (fun g14 hg14 => ?_)
        simp only [go_sem, hn', decide_false, Bool.not_true, Bool.not_false]
        refine hK24 _ ?_
        refine awp_t rfl ?_
        refine awp_seq_k (fun K31 hK31 => ?_)
        refine awp_plain 1 (by kernel_rfl) rfl (fun g15 hg15 => ?_)
        simp only [go_sem]
        refine hK31 _ ?_
        refine awp_ret ?_
        refine ends_ev rfl ?_
        simp only [go_sem]
        exact Co.of_eq (by rw [hR]; simp [typOk, kidsOk, typed, k3, hr, hn])
     ·by_cases k5 : e.kind = 5
      ·have q3 : (e.kind = 3) = False := eq_false (by omega)
       have q5 : (e.kind = 5) = True := eq_true k5
       have q1 : (e.kind = 1) = False := eq_false (by omega)
       have q2 : (e.kind = 2) = False := eq_false (by omega)
       have q4 : (e.kind = 4) = False := eq_false (by omega)
       cases hr : rightTy e.type with
       | false =>
        refine awp_plain 9 (by kernel_rfl) rfl (fun g11 hg11 => ?_)
        simp only [go_sem, q3, q5, decide_true, decide_false]
        refine hK17 _ ?_
        refine awp_seq_k (fun K32 hK32 => ?_)
        refine awp_seq_k (fun K33 hK33 => ?_)
        refine awp_ops (by kernel_rfl) rfl (fun g12 hg12 ops12 KR12 hops12 hKR12 => ?_)
        refine aops_eval 3 hops12 ?_
        simp only [go_sem]
        refine aops_pure hops12 rfl rfl rfl (right04_calls _ h2 (Nat.le_trans (wN_type e) hw) _ _) (CoL.refl _) ?_
        refine aops_last 18 hops12 ?_
        simp only [go_sem, hr, decide_false, Bool.not_true, Bool.not_false]
        refine hKR12 _ ?_
        refine hK33 _ ?_
        refine awp_t rfl ?_
        refine awp_seq_k (fun K34 hK34 => ?_)
        refine awp_plain 1 (by kernel_rfl) rfl (fun g13 hg13 => ?_)
        simp only [go_sem]
        refine hK34 _ ?_
        refine awp_ret ?_
        refine ends_ev rfl ?_
        simp only [go_sem]
        exact Co.of_eq (by rw [hR]; simp [typOk, kidsOk, typed, k5, hr])
       | true =>
        refine awp_plain 9 (by kernel_rfl) rfl (fun g11 hg11 => ?_)
        simp only [go_sem, q3, q5, decide_true, decide_false]
        refine hK17 _ ?_
        refine awp_seq_k (fun K35 hK35 => ?_)
        refine awp_seq_k (fun K36 hK36 => ?_)
        refine awp_ops (by kernel_rfl) rfl (fun g12 hg12 ops12 KR12 hops12 hKR12 => ?_)
        refine aops_eval 3 hops12 ?_
        simp only [go_sem]
        refine aops_pure hops12 rfl rfl rfl (right04_calls _ h2 (Nat.le_trans (wN_type e) hw) _ _) (CoL.refl _) ?_
        refine aops_last 18 hops12 ?_
        simp only [go_sem, hr, decide_true, Bool.not_true]
        refine hKR12 _ ?_
        refine hK36 _ ?_
        refine awp_f rfl ?_
        refine awp_skip ?_
        refine hK35 _ ?_
        refine awp_seq_k (fun K37 hK37 => ?_)
        refine awp_seq_k (fun K38 hK38 => ?_)
        by_cases hn : e.name = (⟨#[]⟩ : ByteArray)
        ·have hn' : (e.name = (⟨#[]⟩ : ByteArray)) = True := eq_true hn
         refine awp_plain 16 (by kernel_rfl) rfl (fun g14 hg14 => ?_)
         simp only [go_sem, hn', decide_true, Bool.not_true]
         refine hK38 _ ?_
         refine awp_f rfl ?_
         refine awp_skip ?_
         refine hK37 _ ?_
         refine awp_seq_k (fun K39 hK39 => ?_)
         refine awp_seq_k (fun K40 hK40 => ?_)
         refine awp_plain 2 (by kernel_rfl) rfl (fun g16 hg16 => ?_)
         simp only [go_sem]
         refine hK40 _ ?_
         refine awp_block ?_
         refine awp_seq_k (fun K41 hK41 => ?_)
         refine awp_plain 2 (by kernel_rfl) rfl (fun g17 hg17 => ?_)
         simp only [go_sem, q1, decide_false]
         refine hK41 _ ?_
         refine awp_f rfl ?_
         refine awp_seq_k (fun K42 hK42 => ?_)
         refine awp_plain 2 (by kernel_rfl) rfl (fun g19 hg19 => ?_)
         simp only [go_sem, q2, decide_false]
         refine hK42 _ ?_
         refine awp_f rfl ?_
         refine awp_seq_k (fun K43 hK43 => ?_)
         refine awp_plain 2 (by kernel_rfl) rfl (fun g21 hg21 => ?_)
         simp only [go_sem, q3, decide_false]
         refine hK43 _ ?_
         refine awp_f rfl ?_
         refine awp_seq_k (fun K44 hK44 => ?_)
         refine awp_seq_k (fun K45 hK45 => ?_)
         refine awp_plain 2 (by kernel_rfl) rfl (fun g23 hg23 => ?_)
         simp only [go_sem, q4, decide_false]
         refine hK45 _ ?_
         refine awp_f rfl ?_
         refine awp_plain 2 (by kernel_rfl) rfl (fun g24 hg24 => ?_)
         simp only [go_sem, q5, decide_true]
         refine hK44 _ ?_
         refine awp_t rfl ?_
         refine awp_seq_k (fun K46 hK46 => ?_)
         refine awp_plain 5 (by kernel_rfl) rfl (fun g25 hg25 => ?_)
         simp only [go_sem]
         refine hK46 _ ?_
         refine awp_ret ?_
         refine ends_ev rfl ?_
         simp only [go_sem]
         exact Co.of_eq (by rw [hR]; simp [typOk, kidsOk, typed, k5, hr, hn])
        ·have hn' : (e.name = (⟨#[]⟩ : ByteArray)) = False := eq_false hn
         refine awp_plain 16 (by kernel_rfl) rfl (fun g14 hg14 => ?_)
         simp only [go_sem, hn', decide_false, Bool.not_true, Bool.not_false]
         refine hK38 _ ?_
         refine awp_t rfl ?_
         refine awp_seq_k (fun K47 hK47 => ?_)
         refine awp_plain 1 (by kernel_rfl) rfl (fun g15 hg15 => ?_)
         simp only [go_sem]
         refine hK47 _ ?_
         refine awp_ret ?_
         refine ends_ev rfl ?_
         simp only [go_sem]
         exact Co.of_eq (by rw [hR]; simp [typOk, kidsOk, typed, k5, hr, hn])
      ·have q3 : (e.kind = 3) = False := eq_false k3
       have q5 : (e.kind = 5) = False := eq_false k5
       cases hr : rightTy e.type with
       | true =>
        refine awp_plain 9 (by kernel_rfl) rfl (fun g11 hg11 => ?_)
        simp only [go_sem, q3, q5, decide_false]
        refine hK17 _ ?_
        refine awp_seq_k (fun K48 hK48 => ?_)
        refine awp_seq_k (fun K49 hK49 => ?_)
        refine awp_ops (by kernel_rfl) rfl (fun g12 hg12 ops12 KR12 hops12 hKR12 => ?_)
        refine aops_eval 3 hops12 ?_
        simp only [go_sem]
        refine aops_pure hops12 rfl rfl rfl (right04_calls _ h2 (Nat.le_trans (wN_type e) hw) _ _) (CoL.refl _) ?_
        refine aops_last 18 hops12 ?_
        simp only [go_sem, hr, decide_false, Bool.not_true, Bool.not_false]
        refine hKR12 _ ?_
        refine hK49 _ ?_
        refine awp_t rfl ?_
        refine awp_seq_k (fun K50 hK50 => ?_)
        refine awp_plain 1 (by kernel_rfl) rfl (fun g13 hg13 => ?_)
        simp only [go_sem]
        refine hK50 _ ?_
        refine awp_ret ?_
        refine ends_ev rfl ?_
        simp only [go_sem]
        exact Co.of_eq (by rw [hR]; simp [typOk, kidsOk, typed, k3, k5, hr])
       | false =>
        by_cases hn1 : e.type.name = (⟨#[]⟩ : ByteArray)
        ·have hx1 : (e.type.name = (⟨#[]⟩ : ByteArray)) = True := eq_true hn1
         by_cases hn2 : e.type.args.length = 0
         ·have hx2 : ((e.type.args.length : Int) > 0) = False := eq_false (by omega)
          have hx3 : e.type.args = [] := List.eq_nil_of_length_eq_zero hn2
          refine awp_plain 9 (by kernel_rfl) rfl (fun g11 hg11 => ?_)
          simp only [go_sem, q3, q5, decide_false]
          refine hK17 _ ?_
          refine awp_seq_k (fun K51 hK51 => ?_)
          refine awp_seq_k (fun K52 hK52 => ?_)
          refine awp_ops (by kernel_rfl) rfl (fun g12 hg12 ops12 KR12 hops12 hKR12 => ?_)
          refine aops_eval 3 hops12 ?_
          simp only [go_sem]
          refine aops_pure hops12 rfl rfl rfl (right04_calls _ h2 (Nat.le_trans (wN_type e) hw) _ _) (CoL.refl _) ?_
          refine aops_last 18 hops12 ?_
          simp only [go_sem, hx1, hx2, hr, decide_true, decide_false, Bool.not_true, Bool.not_false]
          refine hKR12 _ ?_
          refine hK52 _ ?_
          refine awp_f rfl ?_
          refine awp_skip ?_
          refine hK51 _ ?_
          refine awp_seq_k (fun K53 hK53 => ?_)
          refine awp_seq_k (fun K54 hK54 => ?_)
          cases hn : nmOk e.name with
          | false =>
           refine awp_ops (by kernel_rfl) rfl (fun g14 hg14 ops14 KR14 hops14 hKR14 => ?_)
           refine aops_eval 12 hops14 ?_
           simp only [go_sem, Bool.not_false]
           refine aops_pure hops14 rfl rfl rfl (is_calls e.name h1 _ _) (CoL.refl _) ?_
           refine aops_last 3 hops14 ?_
           simp only [go_sem, hn, Bool.not_false]
           refine hKR14 _ ?_
           refine hK54 _ ?_
           refine awp_t rfl ?_
           refine awp_seq_k (fun K55 hK55 => ?_)
           refine awp_plain 1 (by kernel_rfl) rfl (fun g15 hg15 => ?_)
           simp only [go_sem]
           refine hK55 _ ?_
           refine awp_ret ?_
           refine ends_ev rfl ?_
           simp only [go_sem]
           exact Co.of_eq (by rw [hR]; simp [typOk, kidsOk, typed, k3, k5, hr, hn1, hx3, hn])
          | true =>
           refine awp_ops (by kernel_rfl) rfl (fun g14 hg14 ops14 KR14 hops14 hKR14 => ?_)
           refine aops_eval 12 hops14 ?_
           simp only [go_sem, Bool.not_false]
           refine aops_pure hops14 rfl rfl rfl (is_calls e.name h1 _ _) (CoL.refl _) ?_
           refine aops_last 3 hops14 ?_
           simp only [go_sem, hn, Bool.not_true]
           refine hKR14 _ ?_
           refine hK54 _ ?_
           refine awp_f rfl ?_
           refine awp_skip ?_
           refine hK53 _ ?_
           refine awp_seq_k (fun K56 hK56 => ?_)
           refine awp_seq_k (fun K57 hK57 => ?_)
           refine awp_plain 2 (by kernel_rfl) rfl (fun g16 hg16 => ?_)
           simp only [go_sem]
           refine hK57 _ ?_
           refine awp_block ?_
           refine awp_seq_k (fun K58 hK58 => ?_)
           by_cases k1 : e.kind = 1
           ·have q1 : (e.kind = 1) = True := eq_true k1
            refine awp_plain 2 (by kernel_rfl) rfl (fun g17 hg17 => ?_)
            simp only [go_sem, q1, decide_true]
            refine hK58 _ ?_
            refine awp_t rfl ?_
            refine awp_seq_k (fun K59 hK59 => ?_)
            refine awp_plain 5 (by kernel_rfl) rfl (fun g18 hg18 => ?_)
            simp only [go_sem]
            refine hK59 _ ?_
            refine awp_ret ?_
            refine ends_ev rfl ?_
            simp only [go_sem]
            exact Co.of_eq (by rw [hR]; simp [typOk, kidsOk, typed, hr, hn1, hx3, hn, k1])
           ·have q1 : (e.kind = 1) = False := eq_false k1
            refine awp_plain 2 (by kernel_rfl) rfl (fun g17 hg17 => ?_)
            simp only [go_sem, q1, decide_false]
            refine hK58 _ ?_
            refine awp_f rfl ?_
            refine awp_seq_k (fun K60 hK60 => ?_)
            by_cases k2 : e.kind = 2
            ·have q2 : (e.kind = 2) = True := eq_true k2
             refine awp_plain 2 (by kernel_rfl) rfl (fun g19 hg19 => ?_)
             simp only [go_sem, q2, decide_true]
             refine hK60 _ ?_
             refine awp_t rfl ?_
             refine awp_seq_k (fun K61 hK61 => ?_)
             refine awp_plain 5 (by kernel_rfl) rfl (fun g20 hg20 => ?_)
             simp only [go_sem]
             refine hK61 _ ?_
             refine awp_ret ?_
             refine ends_ev rfl ?_
             simp only [go_sem]
             exact Co.of_eq (by rw [hR]; simp [typOk, kidsOk, typed, hr, hn1, hx3, hn, k2])
            ·have q2 : (e.kind = 2) = False := eq_false k2
             refine awp_plain 2 (by kernel_rfl) rfl (fun g19 hg19 => ?_)
             simp only [go_sem, q2, decide_false]
             refine hK60 _ ?_
             refine awp_f rfl ?_
             refine awp_seq_k (fun K62 hK62 => ?_)
             refine awp_plain 2 (by kernel_rfl) rfl (fun g21 hg21 => ?_)
             simp only [go_sem, q3, decide_false]
             refine hK62 _ ?_
             refine awp_f rfl ?_
             refine awp_seq_k (fun K63 hK63 => ?_)
             refine awp_seq_k (fun K64 hK64 => ?_)
             by_cases k4 : e.kind = 4
             ·have q4 : (e.kind = 4) = True := eq_true k4
              refine awp_plain 2 (by kernel_rfl) rfl (fun g23 hg23 => ?_)
              simp only [go_sem, q4, decide_true]
              refine hK64 _ ?_
              refine awp_t rfl ?_
              refine awp_skip ?_
              refine hK63 _ ?_
              refine awp_t rfl ?_
              refine awp_seq_k (fun K65 hK65 => ?_)
              refine awp_plain 5 (by kernel_rfl) rfl (fun g25 hg25 => ?_)
              simp only [go_sem]
              refine hK65 _ ?_
              refine awp_ret ?_
              refine ends_ev rfl ?_
              simp only [go_sem]
              exact Co.of_eq (by rw [hR]; simp [typOk, kidsOk, typed, hr, hn1, hx3, hn, k4])
             ·have q4 : (e.kind = 4) = False := eq_false k4
              refine awp_plain 2 (by kernel_rfl) rfl (fun g23 hg23 => ?_)
              simp only [go_sem, q4, decide_false]
              refine hK64 _ ?_
              refine awp_f rfl ?_
              refine awp_plain 2 (by kernel_rfl) rfl (fun g24 hg24 => ?_)
              simp only [go_sem, q5, decide_false]
              refine hK63 _ ?_
              refine awp_f rfl ?_
              refine awp_skip ?_
              refine hK56 _ ?_
              refine awp_seq_k (fun K66 hK66 => ?_)
              refine awp_plain 1 (by kernel_rfl) rfl (fun g26 hg26 => ?_)
              simp only [go_sem]
              refine hK66 _ ?_
              refine awp_ret ?_
              refine ends_ev rfl ?_
              simp only [go_sem]
              exact Co.of_eq (by rw [hR]; simp [typOk, kidsOk, typed, k3, k5, hr, hn1, hx3, hn, k1, k2, k4])
         ·have hx2 : ((e.type.args.length : Int) > 0) = True := eq_true (by omega)
          refine awp_plain 9 (by kernel_rfl) rfl (fun g11 hg11 => ?_)
          simp only [go_sem, q3, q5, decide_false]
          refine hK17 _ ?_
          refine awp_seq_k (fun K67 hK67 => ?_)
          refine awp_seq_k (fun K68 hK68 => ?_)
          refine awp_ops (by kernel_rfl) rfl (fun g12 hg12 ops12 KR12 hops12 hKR12 => ?_)
          refine aops_eval 3 hops12 ?_
          simp only [go_sem]
          refine aops_pure hops12 rfl rfl rfl (right04_calls _ h2 (Nat.le_trans (wN_type e) hw) _ _) (CoL.refl _) ?_
          refine aops_last 18 hops12 ?_
          simp only [go_sem, hx1, hx2, hr, decide_true, Bool.not_true, Bool.not_false]
          refine hKR12 _ ?_
          refine hK68 _ ?_
          refine awp_t rfl ?_
          refine awp_seq_k (fun K69 hK69 => ?_)
          refine awp_plain 1 (by kernel_rfl) rfl (fun g13 hg13 => ?_)
          simp only [go_sem]
          refine hK69 _ ?_
          refine awp_ret ?_
          refine ends_ev rfl ?_
          simp only [go_sem]
          exact Co.of_eq (by rw [hR]; simp [typOk, kidsOk, typed, k3, k5, hr, hn2])
        ·have hx1 : (e.type.name = (⟨#[]⟩ : ByteArray)) = False := eq_false hn1
         refine awp_plain 9 (by kernel_rfl) rfl (fun g11 hg11 => ?_)
         simp only [go_sem, q3, q5, decide_false]
         refine hK17 _ ?_
         refine awp_seq_k (fun K70 hK70 => ?_)
         refine awp_seq_k (fun K71 hK71 => ?_)
         refine awp_ops (by kernel_rfl) rfl (fun g12 hg12 ops12 KR12 hops12 hKR12 => ?_)
         refine aops_eval 3 hops12 ?_
         simp only [go_sem]
         refine aops_pure hops12 rfl rfl rfl (right04_calls _ h2 (Nat.le_trans (wN_type e) hw) _ _) (CoL.refl _) ?_
         refine aops_last 18 hops12 ?_
         simp only [go_sem, hx1, hr, decide_true, decide_false, Bool.not_true, Bool.not_false]
         refine hKR12 _ ?_
         refine hK71 _ ?_
         refine awp_t rfl ?_
         refine awp_seq_k (fun K72 hK72 => ?_)
         refine awp_plain 1 (by kernel_rfl) rfl (fun g13 hg13 => ?_)
         simp only [go_sem]
         refine hK72 _ ?_
         refine awp_ret ?_
         refine ends_ev rfl ?_
         simp only [go_sem]
         exact Co.of_eq (by rw [hR]; simp [typOk, kidsOk, typed, k3, k5, hr, hn1])
end Go.Proofs.T
namespace Go.Proofs.T
open Go Go.Ab Go.RowKit
theorem smFm.ok {f : Formal} (h : smFm f) : okFm f := ⟨by have := h.1; omega, smTy.ok _ h.2⟩
theorem smPa.ok {f : Param} (h : smPa f) : okPa f := ⟨by have := h.1; omega, smTy.ok _ h.2⟩
theorem smEx.ok : ∀ e : Ex, smEx e → okEx e := by
 refine Ex.ind fun e ih h => ?_
 obtain ⟨h1, h2, ⟨h3, h4⟩, h5, h6⟩ := (smEx_iff e).1 h
 exact (okEx_iff e).2 ⟨by omega, smTy.ok _ h2, ⟨by omega, fun x hx => smTy.ok _ (h4 x hx)⟩, by omega, fun x hx => ih x hx (h6 x hx)⟩
theorem smDe.ok {d : Dec} (h : smDe d) : okDe d := by
 obtain ⟨h1, ⟨h2, h3⟩, ⟨h4, h5⟩, ⟨h6, h7⟩, h8, ⟨h9, h10⟩, h11, h12⟩ := h
 exact ⟨by omega, ⟨by omega, fun f hf => (h3 f hf).ok⟩, ⟨by omega, fun f hf => (h5 f hf).ok⟩, ⟨by omega, fun f hf => (h7 f hf).ok⟩, by omega, ⟨by omega, fun f hf => by have := h10 f hf; omega⟩, h11.ok, smEx.ok _ h12⟩
theorem smPr.ok {p : Prg} (h : smPr p) : okPr p := ⟨⟨by have := h.1.1; omega, fun f hf => (h.1.2 f hf).ok⟩, smEx.ok _ h.2⟩
noncomputable def rightFm (f : Formal) : Bool := nmOk f.name && rightTy f.bound
noncomputable def rightPa (f : Param) : Bool := nmOk f.name && rightTy f.type
noncomputable def rightSi (s : Sig) : Bool := nmOk s.name && (s.formals.all rightFm && (s.params.all rightPa && rightTy s.result))
set_option maxRecDepth 100000 in
theorem rightFms_calls (l : List Formal) (hl : l.length ≤ 1000000) (h : ∀ f ∈ l, okFm f) (hw : ∀ f ∈ l, (namesTy f.bound).length ≤ 1000000) (g d : Nat) : ACalls E 79 [slFm l] [] g d (dB (l.all rightFm)) [] := by
 refine acalls_of_awp (fn := Tryz.f79) (N := 26) Tryz.call79 Tryz.func79 rfl rfl (by simp) ?_
 simp only [go_sem]
 refine awp_seq_k (fun K1 hK1 => ?_)
 refine awp_plain 1 (by kernel_rfl) rfl (fun g0 hg0 => ?_)
 simp only [go_sem]
 refine hK1 _ ?_
 refine awp_seq_k (fun K2 hK2 => ?_)
 refine awp_seq_k (fun K3 hK3 => ?_)
 refine awp_plain 1 (by kernel_rfl) rfl (fun g1 hg1 => ?_)
 simp only [go_sem]
 refine hK3 _ ?_
 refine awp_block ?_
 refine awp_loop (fun m s => ∃ k, k ≤ l.length ∧ m = l.length - k ∧ (l.take k).all rightFm = true ∧ Le { env := [(0, slFm l), (3, dN k)], σ := [] } s) l.length ?_ ?_
 ·refine ⟨0, Nat.zero_le _, rfl, rfl, le_of ?_⟩
  simp only [go_sem]
  trivial
 ·rintro m s ⟨k, hk, rfl, hall, hle⟩
  refine awp_keep hle ?_
  clear hle
  refine awp_seq_k (fun K4 hK4 => ?_)
  refine awp_seq_k (fun K5 hK5 => ?_)
  by_cases hlt : k < l.length
  ·have htake : (l.take (k + 1)).all rightFm = rightFm l[k] := by
    rw [List.take_add_one, List.getElem?_eq_getElem hlt, List.all_append, hall]
    simp
   have hkm := h _ (List.getElem_mem hlt)
   have hwm := hw _ (List.getElem_mem hlt)
   refine awp_plain 4 (by kernel_rfl) rfl (fun g2 hg2 => ?_)
   simp only [go_sem, hlt]
   refine hK5 _ ?_
   refine awp_t rfl ?_
   refine awp_skip ?_
   refine hK4 _ ?_
   refine awp_seq_k (fun K6 hK6 => ?_)
   refine awp_block ?_
   refine awp_seq_k (fun K7 hK7 => ?_)
   refine awp_ops (by kernel_rfl) rfl (fun g4 hg4 ops4 KR4 hops4 hKR4 => ?_)
   refine aops_eval 5 hops4 ?_
   simp only [go_sem, getM hlt]
   cases hb1 : nmOk l[k].name with
   | false =>
    refine aops_pure hops4 rfl rfl rfl (is_calls l[k].name hkm.1 _ _) (CoL.refl _) ?_
    refine aops_last 10 hops4 ?_
    simp only [go_sem, hb1, Bool.not_false]
    refine hKR4 _ ?_
    refine hK7 _ ?_
    have hf : l.all rightFm = false := by
     rw [List.all_eq_false]
     exact ⟨_, List.getElem_mem hlt, by simp [rightFm, hb1]⟩
    refine awp_t rfl ?_
    refine awp_seq_k (fun K8 hK8 => ?_)
    refine awp_plain 1 (by kernel_rfl) rfl (fun g5 hg5 => ?_)
    simp only [go_sem]
    refine hK8 _ ?_
    refine awp_ret ?_
    refine ends_ev rfl ?_
    simp only [go_sem]
    exact Co.of_eq (by rw [hf])
   | true =>
    refine aops_pure hops4 rfl rfl rfl (is_calls l[k].name hkm.1 _ _) (CoL.refl _) ?_
    refine aops_eval 7 hops4 ?_
    simp only [go_sem, hb1, Bool.not_true, getM hlt]
    cases hb2 : rightTy l[k].bound with
    | false =>
     refine aops_pure hops4 rfl rfl rfl (right04_calls _ hkm.2 hwm _ _) (CoL.refl _) ?_
     refine aops_last 2 hops4 ?_
     simp only [go_sem, hb2, Bool.not_false]
     refine hKR4 _ ?_
     refine hK7 _ ?_
     have hb1 := hb2
     have hf : l.all rightFm = false := by
      rw [List.all_eq_false]
      exact ⟨_, List.getElem_mem hlt, by simp [rightFm, hb1]⟩
     refine awp_t rfl ?_
     refine awp_seq_k (fun K9 hK9 => ?_)
     refine awp_plain 1 (by kernel_rfl) rfl (fun g5 hg5 => ?_)
     simp only [go_sem]
     refine hK9 _ ?_
     refine awp_ret ?_
     refine ends_ev rfl ?_
     simp only [go_sem]
     exact Co.of_eq (by rw [hf])
    | true =>
     refine aops_pure hops4 rfl rfl rfl (right04_calls _ hkm.2 hwm _ _) (CoL.refl _) ?_
     refine aops_last 2 hops4 ?_
     simp only [go_sem, hb2, Bool.not_true]
     refine hKR4 _ ?_
     refine hK7 _ ?_
     refine awp_f rfl ?_
     refine awp_skip ?_
     refine hK6 _ ?_
     refine awp_plain 3 (by kernel_rfl) rfl (fun g3 hg3 => ?_)
     simp only [go_sem]
     try simp (disch := omega) only [wrapN]
     refine ⟨_, ?_, k + 1, hlt, rfl, by rw [htake, rightFm, hb1, hb2]; rfl, le_of ?_⟩
     ·omega
     simp only [go_sem]
     try omega
  ·have : k = l.length := by omega
   subst this
   rw [List.take_length] at hall
   refine awp_plain 4 (by kernel_rfl) rfl (fun g2 hg2 => ?_)
   simp only [go_sem, hlt]
   refine hK5 _ ?_
   refine awp_f rfl ?_
   refine awp_exit ?_
   refine hK2 _ ?_
   refine awp_seq_k (fun K10 hK10 => ?_)
   refine awp_plain 1 (by kernel_rfl) rfl (fun g6 hg6 => ?_)
   simp only [go_sem]
   refine hK10 _ ?_
   refine awp_ret ?_
   refine ends_ev rfl ?_
   simp only [go_sem]
   exact Co.of_eq (by rw [hall])
set_option maxRecDepth 100000 in
theorem rightPas_calls (l : List Param) (hl : l.length ≤ 1000000) (h : ∀ f ∈ l, okPa f) (hw : ∀ f ∈ l, (namesTy f.type).length ≤ 1000000) (g d : Nat) : ACalls E 80 [slPa l] [] g d (dB (l.all rightPa)) [] := by
 refine acalls_of_awp (fn := Tryz.f80) (N := 26) Tryz.call80 Tryz.func80 rfl rfl (by simp) ?_
 simp only [go_sem]
 refine awp_seq_k (fun K1 hK1 => ?_)
 refine awp_plain 1 (by kernel_rfl) rfl (fun g0 hg0 => ?_)
 simp only [go_sem]
 refine hK1 _ ?_
 refine awp_seq_k (fun K2 hK2 => ?_)
 refine awp_seq_k (fun K3 hK3 => ?_)
 refine awp_plain 1 (by kernel_rfl) rfl (fun g1 hg1 => ?_)
 simp only [go_sem]
 refine hK3 _ ?_
 refine awp_block ?_
 refine awp_loop (fun m s => ∃ k, k ≤ l.length ∧ m = l.length - k ∧ (l.take k).all rightPa = true ∧ Le { env := [(0, slPa l), (3, dN k)], σ := [] } s) l.length ?_ ?_
 ·refine ⟨0, Nat.zero_le _, rfl, rfl, le_of ?_⟩
  simp only [go_sem]
  trivial
 ·rintro m s ⟨k, hk, rfl, hall, hle⟩
  refine awp_keep hle ?_
  clear hle
  refine awp_seq_k (fun K4 hK4 => ?_)
  refine awp_seq_k (fun K5 hK5 => ?_)
  by_cases hlt : k < l.length
  ·have htake : (l.take (k + 1)).all rightPa = rightPa l[k] := by
    rw [List.take_add_one, List.getElem?_eq_getElem hlt, List.all_append, hall]
    simp
   have hkm := h _ (List.getElem_mem hlt)
   have hwm := hw _ (List.getElem_mem hlt)
   refine awp_plain 4 (by kernel_rfl) rfl (fun g2 hg2 => ?_)
   simp only [go_sem, hlt]
   refine hK5 _ ?_
   refine awp_t rfl ?_
   refine awp_skip ?_
   refine hK4 _ ?_
   refine awp_seq_k (fun K6 hK6 => ?_)
   refine awp_block ?_
   refine awp_seq_k (fun K7 hK7 => ?_)
   refine awp_ops (by kernel_rfl) rfl (fun g4 hg4 ops4 KR4 hops4 hKR4 => ?_)
   refine aops_eval 5 hops4 ?_
   simp only [go_sem, getM hlt]
   cases hb1 : nmOk l[k].name with
   | false =>
    refine aops_pure hops4 rfl rfl rfl (is_calls l[k].name hkm.1 _ _) (CoL.refl _) ?_
    refine aops_last 10 hops4 ?_
    simp only [go_sem, hb1, Bool.not_false]
    refine hKR4 _ ?_
    refine hK7 _ ?_
    have hf : l.all rightPa = false := by
     rw [List.all_eq_false]
     exact ⟨_, List.getElem_mem hlt, by simp [rightPa, hb1]⟩
    refine awp_t rfl ?_
    refine awp_seq_k (fun K8 hK8 => ?_)
    refine awp_plain 1 (by kernel_rfl) rfl (fun g5 hg5 => ?_)
    simp only [go_sem]
    refine hK8 _ ?_
    refine awp_ret ?_
    refine ends_ev rfl ?_
    simp only [go_sem]
    exact Co.of_eq (by rw [hf])
   | true =>
    refine aops_pure hops4 rfl rfl rfl (is_calls l[k].name hkm.1 _ _) (CoL.refl _) ?_
    refine aops_eval 7 hops4 ?_
    simp only [go_sem, hb1, Bool.not_true, getM hlt]
    cases hb2 : rightTy l[k].type with
    | false =>
     refine aops_pure hops4 rfl rfl rfl (right04_calls _ hkm.2 hwm _ _) (CoL.refl _) ?_
     refine aops_last 2 hops4 ?_
     simp only [go_sem, hb2, Bool.not_false]
     refine hKR4 _ ?_
     refine hK7 _ ?_
     have hb1 := hb2
     have hf : l.all rightPa = false := by
      rw [List.all_eq_false]
      exact ⟨_, List.getElem_mem hlt, by simp [rightPa, hb1]⟩
     refine awp_t rfl ?_
     refine awp_seq_k (fun K9 hK9 => ?_)
     refine awp_plain 1 (by kernel_rfl) rfl (fun g5 hg5 => ?_)
     simp only [go_sem]
     refine hK9 _ ?_
     refine awp_ret ?_
     refine ends_ev rfl ?_
     simp only [go_sem]
     exact Co.of_eq (by rw [hf])
    | true =>
     refine aops_pure hops4 rfl rfl rfl (right04_calls _ hkm.2 hwm _ _) (CoL.refl _) ?_
     refine aops_last 2 hops4 ?_
     simp only [go_sem, hb2, Bool.not_true]
     refine hKR4 _ ?_
     refine hK7 _ ?_
     refine awp_f rfl ?_
     refine awp_skip ?_
     refine hK6 _ ?_
     refine awp_plain 3 (by kernel_rfl) rfl (fun g3 hg3 => ?_)
     simp only [go_sem]
     try simp (disch := omega) only [wrapN]
     refine ⟨_, ?_, k + 1, hlt, rfl, by rw [htake, rightPa, hb1, hb2]; rfl, le_of ?_⟩
     ·omega
     simp only [go_sem]
     try omega
  ·have : k = l.length := by omega
   subst this
   rw [List.take_length] at hall
   refine awp_plain 4 (by kernel_rfl) rfl (fun g2 hg2 => ?_)
   simp only [go_sem, hlt]
   refine hK5 _ ?_
   refine awp_f rfl ?_
   refine awp_exit ?_
   refine hK2 _ ?_
   refine awp_seq_k (fun K10 hK10 => ?_)
   refine awp_plain 1 (by kernel_rfl) rfl (fun g6 hg6 => ?_)
   simp only [go_sem]
   refine hK10 _ ?_
   refine awp_ret ?_
   refine ends_ev rfl ?_
   simp only [go_sem]
   exact Co.of_eq (by rw [hall])
set_option maxRecDepth 100000 in
theorem rightSi_calls (s : Sig) (hs : smSi s) (h2 : s.formals.length ≤ 1000000) (h3 : s.params.length ≤ 1000000) (hw : wN (siTys s) ≤ 1000000) (g d : Nat) : ACalls E 81 [encSi s] [] g d (dB (rightSi s)) [] := by
 obtain ⟨k1, ⟨k2, k3⟩, ⟨k4, k5⟩, k6⟩ := hs
 have w1 : ∀ t ∈ siTys s, (namesTy t).length ≤ 1000000 := fun t ht => Nat.le_trans (wN_mem ht) hw
 refine acalls_of_awp (fn := Tryz.f81) (N := 21) Tryz.call81 Tryz.func81 rfl rfl (by simp) ?_
 simp only [go_sem]
 refine awp_seq_k (fun K1 hK1 => ?_)
 refine awp_plain 2 (by kernel_rfl) rfl (fun g0 hg0 => ?_)
 simp only [go_sem]
 refine hK1 _ ?_
 refine awp_seq_k (fun K2 hK2 => ?_)
 refine awp_ops (by kernel_rfl) rfl (fun g1 hg1 ops1 KR1 hops1 hKR1 => ?_)
 refine aops_eval 2 hops1 ?_
 simp only [go_sem]
 cases hb1 : nmOk s.name with
 | false =>
  refine aops_pure hops1 rfl rfl rfl (is_calls s.name (by omega) _ _) (CoL.refl _) ?_
  refine aops_last 16 hops1 ?_
  simp only [go_sem, hb1]
  refine hKR1 _ ?_
  refine hK2 _ ?_
  refine awp_ret ?_
  refine ends_ev rfl ?_
  simp only [go_sem]
  exact Co.of_eq (by simp [rightSi, hb1])
 | true =>
  refine aops_pure hops1 rfl rfl rfl (is_calls s.name (by omega) _ _) (CoL.refl _) ?_
  refine aops_eval 3 hops1 ?_
  simp only [go_sem, hb1]
  cases hb2 : s.formals.all rightFm with
  | false =>
   refine aops_pure hops1 rfl rfl rfl (rightFms_calls s.formals h2 (fun f hf => (k3 f hf).ok) (fun f hf => w1 _ (by unfold siTys; simp; exact .inl ⟨f, hf, rfl⟩)) _ _) (CoL.refl _) ?_
   refine aops_last 12 hops1 ?_
   simp only [go_sem, hb2]
   refine hKR1 _ ?_
   refine hK2 _ ?_
   refine awp_ret ?_
   refine ends_ev rfl ?_
   simp only [go_sem]
   exact Co.of_eq (by simp [rightSi, hb1, hb2])
  | true =>
   refine aops_pure hops1 rfl rfl rfl (rightFms_calls s.formals h2 (fun f hf => (k3 f hf).ok) (fun f hf => w1 _ (by unfold siTys; simp; exact .inl ⟨f, hf, rfl⟩)) _ _) (CoL.refl _) ?_
   refine aops_eval 4 hops1 ?_
   simp only [go_sem, hb2]
   cases hb3 : s.params.all rightPa with
   | false =>
    refine aops_pure hops1 rfl rfl rfl (rightPas_calls s.params h3 (fun f hf => (k5 f hf).ok) (fun f hf => w1 _ (by unfold siTys; simp; exact .inr (.inl ⟨f, hf, rfl⟩))) _ _) (CoL.refl _) ?_
    refine aops_last 7 hops1 ?_
    simp only [go_sem, hb3]
    refine hKR1 _ ?_
    refine hK2 _ ?_
    refine awp_ret ?_
    refine ends_ev rfl ?_
    simp only [go_sem]
    exact Co.of_eq (by simp [rightSi, hb1, hb2, hb3])
   | true =>
    refine aops_pure hops1 rfl rfl rfl (rightPas_calls s.params h3 (fun f hf => (k5 f hf).ok) (fun f hf => w1 _ (by unfold siTys; simp; exact .inr (.inl ⟨f, hf, rfl⟩))) _ _) (CoL.refl _) ?_
    refine aops_eval 4 hops1 ?_
    simp only [go_sem, hb3]
    refine aops_pure hops1 rfl rfl rfl (right04_calls _ (smTy.ok _ k6) (w1 _ (by unfold siTys; simp)) _ _) (CoL.refl _) ?_
    refine aops_last 2 hops1 ?_
    simp only [go_sem]
    refine hKR1 _ ?_
    refine hK2 _ ?_
    refine awp_ret ?_
    refine ends_ev rfl ?_
    simp only [go_sem]
    exact Co.of_eq (by simp [rightSi, hb1, hb2, hb3])
end Go.Proofs.T
namespace Go.Proofs.T
open Go Go.Ab Go.RowKit
set_option maxRecDepth 100000 in
theorem gFormals_calls (sc : Sc) (q c : Nat) (l : List Formal) (hl : l.length ≤ 1000000) (hok : ∀ f ∈ l, okTy f.bound) (R : List Ed) (g d : Nat) :
  ACalls E 90 [.mref ⟨q, c, 0⟩, .fmap ksN (scE sc), slFm l] [(⟨q, c, 0⟩, .map ksE (edE R))] g d (.tup []) [(⟨q, c, 0⟩, .map ksE (edE ((l.flatMap fun f => visE sc f.bound).foldl addE R)))] := by
 refine acalls_of_awp (fn := Tryz.f90) (N := 20) Tryz.call90 Tryz.func90 rfl rfl (by simp) ?_
 simp only [go_sem]
 refine awp_seq_k (fun K1 hK1 => ?_)
 refine awp_plain 3 (by kernel_rfl) rfl (fun g0 hg0 => ?_)
 simp only [go_sem]
 refine hK1 _ ?_
 refine awp_block ?_
 refine awp_loop (fun m st => ∃ k, k ≤ l.length ∧ m = l.length - k ∧ Le { env := [(0, .mref ⟨q, c, 0⟩), (1, .fmap ksN (scE sc)), (8, slFm l), (9, dN l.length), (10, dN k)], σ := [(⟨q, c, 0⟩, .map ksE (edE (((l.take k).flatMap fun f => visE sc f.bound).foldl addE R)))] } st) l.length ?_ ?_
 ·refine ⟨0, Nat.zero_le _, rfl, le_of ?_⟩
  simp only [go_sem, List.take_zero, List.flatMap_nil, List.foldl_nil]
  all_goals first | done | exact rfl | exact ⟨rfl, rfl⟩ | trivial | omega
 ·rintro m st ⟨k, hk, rfl, hle⟩
  refine awp_keep hle ?_
  clear hle
  refine awp_seq_k (fun K2 hK2 => ?_)
  by_cases hlt : k < l.length
  ·have hfl : ((l.take (k + 1)).flatMap fun f => visE sc f.bound).foldl addE R = (visE sc l[k].bound).foldl addE (((l.take k).flatMap fun f => visE sc f.bound).foldl addE R) := by
    rw [flatTake _ hlt, List.foldl_append]
   have hgm := getM (f := encFm) hlt
   have hmem := List.getElem_mem hlt
   generalize l[k] = X at *
   generalize ((l.take k).flatMap fun f => visE sc f.bound).foldl addE R = R2 at *
   refine awp_plain 1 (by kernel_rfl) rfl (fun g1 hg1 => ?_)
   simp only [go_sem, hlt]
   refine hK2 _ ?_
   refine awp_seq_k (fun K3 hK3 => ?_)
   refine awp_t rfl ?_
   refine awp_skip ?_
   refine hK3 _ ?_
   refine awp_seq_k (fun K4 hK4 => ?_)
   refine awp_block ?_
   refine awp_seq_k (fun K5 hK5 => ?_)
   refine awp_plain 4 (by kernel_rfl) rfl (fun g2 hg2 => ?_)
   simp only [go_sem, hgm]
   refine hK5 _ ?_
   have hn2_q : g2 ≠ q := fresh_g hg2 c 0 (by simp [go_sem])
   refine awp_ops (by kernel_rfl) rfl (fun g3 hg3 ops3 KR3 hops3 hKR3 => ?_)
   refine aops_eval 4 hops3 ?_
   simp only [go_sem, Ne.symm hn2_q]
   refine aops_call hops3 rfl rfl rfl (visT_calls sc q c X.bound (hok X hmem) R2 _ _) (CoL.refl _) (by simp [go_sem, hn2_q]) ?_
   refine aops_last 0 hops3 ?_
   simp only [go_sem, hn2_q]
   refine hKR3 _ ?_
   refine hK4 _ ?_
   refine awp_plain 2 (by kernel_rfl) rfl (fun g4 hg4 => ?_)
   simp only [go_sem]
   try simp (disch := omega) only [wrapN]
   refine ⟨_, ?_, k + 1, hlt, rfl, le_of ?_⟩
   ·omega
   simp only [go_sem, hfl, hn2_q]
   all_goals first | done | exact rfl | exact ⟨rfl, rfl⟩ | trivial | omega
  ·have : k = l.length := by omega
   subst this
   refine awp_plain 1 (by kernel_rfl) rfl (fun g1 hg1 => ?_)
   simp only [go_sem, hlt]
   refine hK2 _ ?_
   refine awp_seq_k (fun K6 hK6 => ?_)
   refine awp_f rfl ?_
   refine awp_exit ?_
   show Go.Ab.Ends E _ _ _ _ _ _
   refine ends_keep rfl (by simp [go_sem]) ?_
   simp only [go_sem]
   exact Co.refl _
set_option maxRecDepth 100000 in
theorem gParams_calls (sc : Sc) (q c : Nat) (l : List Param) (hl : l.length ≤ 1000000) (hok : ∀ f ∈ l, okTy f.type) (R : List Ed) (g d : Nat) :
  ACalls E 91 [.mref ⟨q, c, 0⟩, .fmap ksN (scE sc), slPa l] [(⟨q, c, 0⟩, .map ksE (edE R))] g d (.tup []) [(⟨q, c, 0⟩, .map ksE (edE ((l.flatMap fun f => visE sc f.type).foldl addE R)))] := by
 refine acalls_of_awp (fn := Tryz.f91) (N := 20) Tryz.call91 Tryz.func91 rfl rfl (by simp) ?_
 simp only [go_sem]
 refine awp_seq_k (fun K1 hK1 => ?_)
 refine awp_plain 3 (by kernel_rfl) rfl (fun g0 hg0 => ?_)
 simp only [go_sem]
 refine hK1 _ ?_
 refine awp_block ?_
 refine awp_loop (fun m st => ∃ k, k ≤ l.length ∧ m = l.length - k ∧ Le { env := [(0, .mref ⟨q, c, 0⟩), (1, .fmap ksN (scE sc)), (8, slPa l), (9, dN l.length), (10, dN k)], σ := [(⟨q, c, 0⟩, .map ksE (edE (((l.take k).flatMap fun f => visE sc f.type).foldl addE R)))] } st) l.length ?_ ?_
 ·refine ⟨0, Nat.zero_le _, rfl, le_of ?_⟩
  simp only [go_sem, List.take_zero, List.flatMap_nil, List.foldl_nil]
  all_goals first | done | exact rfl | exact ⟨rfl, rfl⟩ | trivial | omega
 ·rintro m st ⟨k, hk, rfl, hle⟩
  refine awp_keep hle ?_
  clear hle
  refine awp_seq_k (fun K2 hK2 => ?_)
  by_cases hlt : k < l.length
  ·have hfl : ((l.take (k + 1)).flatMap fun f => visE sc f.type).foldl addE R = (visE sc l[k].type).foldl addE (((l.take k).flatMap fun f => visE sc f.type).foldl addE R) := by
    rw [flatTake _ hlt, List.foldl_append]
   have hgm := getM (f := encPa) hlt
   have hmem := List.getElem_mem hlt
   generalize l[k] = X at *
   generalize ((l.take k).flatMap fun f => visE sc f.type).foldl addE R = R2 at *
   refine awp_plain 1 (by kernel_rfl) rfl (fun g1 hg1 => ?_)
   simp only [go_sem, hlt]
   refine hK2 _ ?_
   refine awp_seq_k (fun K3 hK3 => ?_)
   refine awp_t rfl ?_
   refine awp_skip ?_
   refine hK3 _ ?_
   refine awp_seq_k (fun K4 hK4 => ?_)
   refine awp_block ?_
   refine awp_seq_k (fun K5 hK5 => ?_)
   refine awp_plain 4 (by kernel_rfl) rfl (fun g2 hg2 => ?_)
   simp only [go_sem, hgm]
   refine hK5 _ ?_
   have hn2_q : g2 ≠ q := fresh_g hg2 c 0 (by simp [go_sem])
   refine awp_ops (by kernel_rfl) rfl (fun g3 hg3 ops3 KR3 hops3 hKR3 => ?_)
   refine aops_eval 4 hops3 ?_
   simp only [go_sem, Ne.symm hn2_q]
   refine aops_call hops3 rfl rfl rfl (visT_calls sc q c X.type (hok X hmem) R2 _ _) (CoL.refl _) (by simp [go_sem, hn2_q]) ?_
   refine aops_last 0 hops3 ?_
   simp only [go_sem, hn2_q]
   refine hKR3 _ ?_
   refine hK4 _ ?_
   refine awp_plain 2 (by kernel_rfl) rfl (fun g4 hg4 => ?_)
   simp only [go_sem]
   try simp (disch := omega) only [wrapN]
   refine ⟨_, ?_, k + 1, hlt, rfl, le_of ?_⟩
   ·omega
   simp only [go_sem, hfl, hn2_q]
   all_goals first | done | exact rfl | exact ⟨rfl, rfl⟩ | trivial | omega
  ·have : k = l.length := by omega
   subst this
   refine awp_plain 1 (by kernel_rfl) rfl (fun g1 hg1 => ?_)
   simp only [go_sem, hlt]
   refine hK2 _ ?_
   refine awp_seq_k (fun K6 hK6 => ?_)
   refine awp_f rfl ?_
   refine awp_exit ?_
   show Go.Ab.Ends E _ _ _ _ _ _
   refine ends_keep rfl (by simp [go_sem]) ?_
   simp only [go_sem]
   exact Co.refl _
noncomputable abbrev fmS (s : Sc) (b : Bool) (o : Str) (l : List Formal) : Sc := putS2 s b o (l.map (·.name))
noncomputable def siE (sc : Sc) (x : Sig) : List Ed := (x.formals.flatMap fun f => visE sc f.bound) ++ (x.params.flatMap fun f => visE sc f.type) ++ visE sc x.result
set_option maxRecDepth 100000 in
theorem gSig_calls (sc : Sc) (q c : Nat) (x : Sig) (hs : smSi x) (R : List Ed) (g d : Nat) :
  ACalls E 92 [.mref ⟨q, c, 0⟩, .fmap ksN (scE sc), encSi x] [(⟨q, c, 0⟩, .map ksE (edE R))] g d (.fmap ksN (scE (fmS sc true x.name x.formals))) [(⟨q, c, 0⟩, .map ksE (edE ((siE (fmS sc true x.name x.formals) x).foldl addE R)))] := by
 obtain ⟨h1, ⟨h2, h3⟩, ⟨h4, h5⟩, h6⟩ := hs
 have hp := fun g d => put_calls sc true x.name (x.formals.map (·.name)) (by rw [List.length_map]; exact h2) g d
 unfold siE fmS
 rw [List.foldl_append, List.foldl_append]
 generalize putS2 sc true x.name (x.formals.map (·.name)) = S at hp ⊢
 refine acalls_of_awp (fn := Tryz.f92) (N := 30) Tryz.call92 Tryz.func92 rfl rfl (by simp) ?_
 simp only [go_sem]
 refine awp_seq_k (fun K1 hK1 => ?_)
 refine awp_plain 2 (by kernel_rfl) rfl (fun g0 hg0 => ?_)
 simp only [go_sem]
 refine hK1 _ ?_
 refine awp_seq_k (fun K2 hK2 => ?_)
 have hn0_q : g0 ≠ q := fresh_g hg0 c 0 (by simp [go_sem])
 refine awp_any 7 (by kernel_rfl) (by kernel_rfl) rfl (fun g1 hg1 ops1 KR1 hops1 hKR1 => ?_)
 refine qrun_eval 5 hops1 ?_
 simp only [go_sem, Ne.symm hn0_q]
 refine qrun_pure hops1 rfl rfl rfl (flowNames_calls x.formals h2 _ _) (CoL.refl _) (by simp [nwOk]) ?_
 refine qrun_pure hops1 rfl rfl rfl (hp _ _) (CoL.refl _) (by simp [nwOk]) ?_
 refine qrun_last 0 hops1 ?_
 simp only [go_sem]
 refine aops_last 1 hops1 ?_
 simp only [go_sem]
 refine hKR1 _ ?_
 refine hK2 _ ?_
 refine awp_seq_k (fun K3 hK3 => ?_)
 refine awp_ops (by kernel_rfl) rfl (fun g2 hg2 ops2 KR2 hops2 hKR2 => ?_)
 refine aops_eval 4 hops2 ?_
 simp only [go_sem, Ne.symm hn0_q]
 refine aops_call hops2 rfl rfl rfl (gFormals_calls S q c x.formals h2 (fun f hf => smTy.ok _ (h3 f hf).2) R _ _) (CoL.refl _) (by simp [go_sem, hn0_q]) ?_
 refine aops_last 0 hops2 ?_
 simp only [go_sem, hn0_q]
 refine hKR2 _ ?_
 refine hK3 _ ?_
 refine awp_seq_k (fun K4 hK4 => ?_)
 refine awp_ops (by kernel_rfl) rfl (fun g3 hg3 ops3 KR3 hops3 hKR3 => ?_)
 refine aops_eval 4 hops3 ?_
 simp only [go_sem, Ne.symm hn0_q]
 refine aops_call hops3 rfl rfl rfl (gParams_calls S q c x.params h4 (fun f hf => smTy.ok _ (h5 f hf).2) ((x.formals.flatMap fun f => visE S f.bound).foldl addE R) _ _) (CoL.refl _) (by simp [go_sem]) ?_
 refine aops_last 0 hops3 ?_
 simp only [go_sem, hn0_q]
 refine hKR3 _ ?_
 refine hK4 _ ?_
 refine awp_seq_k (fun K5 hK5 => ?_)
 refine awp_ops (by kernel_rfl) rfl (fun g4 hg4 ops4 KR4 hops4 hKR4 => ?_)
 refine aops_eval 4 hops4 ?_
 simp only [go_sem, Ne.symm hn0_q]
 refine aops_call hops4 rfl rfl rfl (visT_calls S q c x.result (smTy.ok _ h6) ((x.params.flatMap fun f => visE S f.type).foldl addE ((x.formals.flatMap fun f => visE S f.bound).foldl addE R)) _ _) (CoL.refl _) (by simp [go_sem]) ?_
 refine aops_last 0 hops4 ?_
 simp only [go_sem, hn0_q]
 refine hKR4 _ ?_
 refine hK5 _ ?_
 refine awp_seq_k (fun K6 hK6 => ?_)
 refine awp_plain 2 (by kernel_rfl) rfl (fun g5 hg5 => ?_)
 simp only [go_sem]
 refine hK6 _ ?_
 refine awp_ret ?_
 refine ends_keep rfl (by simp [go_sem]) ?_
 simp only [go_sem]
 exact Co.refl _
end Go.Proofs.T
