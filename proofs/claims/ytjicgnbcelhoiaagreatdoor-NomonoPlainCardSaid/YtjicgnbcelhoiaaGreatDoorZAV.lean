/- A part of the proof, under no conditions of its own: ZAV. -/
import Derived.Test.YtjicgnbcelhoiaaGreatDoorZAU
import Derived.Test.YtjicgnbcelhoiaaGreatDoorZAQ
import Derived.Test.YtjicgnbcelhoiaaGreatDoorZAH
namespace Go.Proofs.T
open Go Go.Ab Go.RowKit
def Shut19 (l : List Ed) (n : Nd) (R : List Nd) : Prop := ∀ e ∈ l, (e.frm = n ∨ e.frm ∈ R) → e.to ∈ R
structure Rs (l : List Ed) (n : Nd) (R : List Nd) : Prop where
 nodup : R.Nodup
 rch : ∀ x ∈ R, Rch l n x
theorem Rs.len {l : List Ed} {n : Nd} {R : List Nd} (h : Rs l n R) : R.length ≤ l.length := by
 have := nodup_len R (l.map (·.to)) h.nodup fun x hx => by
  obtain ⟨e, he, h2⟩ := (h.rch x hx).target
  exact List.mem_map.2 ⟨e, he, h2⟩
 simpa using this
theorem Rs.nil (l : List Ed) (n : Nd) : Rs l n [] := ⟨List.nodup_nil, fun _ h => nomatch h⟩
theorem Rs.add {l : List Ed} {n : Nd} {R : List Nd} (h : Rs l n R) {e : Ed} (he : e ∈ l) (hf : e.frm = n ∨ e.frm ∈ R) (hn : e.to ∉ R) : Rs l n (R ++ [e.to]) := by
 refine ⟨?_, fun x hx => ?_⟩
 ·rw [List.nodup_append]
  refine ⟨h.nodup, by simp, fun a ha b hb => ?_⟩
  rw [List.mem_singleton.1 hb]
  rintro rfl
  exact hn ha
 ·rcases List.mem_append.1 hx with hx | hx
  ·exact h.rch x hx
  ·rw [List.mem_singleton.1 hx]
   rcases hf with hf | hf
   ·exact .one he hf
   ·exact .more (h.rch _ hf) he
theorem Rs.all {l : List Ed} {n : Nd} {R : List Nd} (h : Rs l n R) (hs : Shut19 l n R) (x : Nd) : x ∈ R ↔ Rch l n x := by
 refine ⟨h.rch x, fun hx => ?_⟩
 induction hx with
 | one h1 h2 => exact hs _ h1 (.inl h2)
 | more _ h2 ih => exact hs _ h2 (.inr ih)
open Classical in
noncomputable def roundR (n : Nd) (R : List Nd) (e : Ed) : List Nd := if (e.frm = n ∨ memB e.frm R = true) ∧ memB e.to R = false then R ++ [e.to] else R
noncomputable def passR (l : List Ed) (n : Nd) (R : List Nd) : List Nd := l.foldl (roundR n) R
theorem roundR_rs {l : List Ed} {n : Nd} {R : List Nd} (h : Rs l n R) {e : Ed} (he : e ∈ l) : Rs l n (roundR n R e) := by
 unfold roundR
 split
 ·rename_i hc
  exact h.add he (hc.1.imp id memB_true.1) fun hm => by rw [memB_true.2 hm] at hc; cases hc.2
 ·exact h
theorem foldR_rs {l : List Ed} {n : Nd} : ∀ (m : List Ed) (R : List Nd), (∀ e ∈ m, e ∈ l) → Rs l n R → Rs l n (m.foldl (roundR n) R)
 | [], _, _, h => h
 | e :: m, _, hm, h => foldR_rs m _ (fun x hx => hm x (List.mem_cons_of_mem _ hx)) (roundR_rs h (hm e List.mem_cons_self))
theorem roundR_len (n : Nd) (R : List Nd) (e : Ed) : R.length ≤ (roundR n R e).length := by
 unfold roundR
 split <;> simp
theorem foldR_len (n : Nd) : ∀ (m : List Ed) (R : List Nd), R.length ≤ (m.foldl (roundR n) R).length
 | [], _ => Nat.le_refl _
 | e :: m, R => Nat.le_trans (roundR_len n R e) (foldR_len n m _)
theorem foldR_same (n : Nd) : ∀ (m : List Ed) (R : List Nd), (m.foldl (roundR n) R).length = R.length → m.foldl (roundR n) R = R ∧ Shut19 m n R
 | [], R, _ => ⟨rfl, fun e he => nomatch he⟩
 | e :: m, R, h => by
  rw [List.foldl_cons] at h ⊢
  have h1 := foldR_len n m (roundR n R e)
  have h2 := roundR_len n R e
  have h3 : roundR n R e = R := by
   unfold roundR at h h1 h2 ⊢
   split
   ·rename_i hc
    rw [if_pos hc] at h h1 h2
    rw [List.length_append, List.length_singleton] at h1
    omega
   ·rfl
  rw [h3] at h ⊢
  obtain ⟨h4, h5⟩ := foldR_same n m R h
  refine ⟨h4, fun x hx hf => ?_⟩
  rcases List.mem_cons.1 hx with rfl | hx
  ·unfold roundR at h3
   by_cases hc : (x.frm = n ∨ memB x.frm R = true) ∧ memB x.to R = false
   ·rw [if_pos hc] at h3
    have := congrArg List.length h3
    simp at this
   ·have h6 : memB x.to R ≠ false := fun h7 => hc ⟨hf.imp id memB_true.2, h7⟩
    exact memB_true.1 (by simpa using h6)
  ·exact h5 x hx hf
noncomputable def reachF (l : List Ed) (n : Nd) : Nat → List Nd → List Nd
 | 0, R => R
 | f + 1, R => if (passR l n R).length = R.length then R else reachF l n f (passR l n R)
noncomputable def reachR (l : List Ed) (n : Nd) : List Nd := reachF l n (l.length + 1) []
theorem reachF_spec {l : List Ed} {n : Nd} : ∀ (f : Nat) (R : List Nd), Rs l n R → l.length < f + R.length → Rs l n (reachF l n f R) ∧ Shut19 l n (reachF l n f R)
 | 0, R, h, hf => by have := h.len; omega
 | f + 1, R, h, hf => by
  unfold reachF
  split
  ·rename_i he
   exact ⟨h, (foldR_same n l R he).2⟩
  ·rename_i he
   have := foldR_len n l R
   exact reachF_spec f _ (foldR_rs l R (fun _ h => h) h) (by unfold passR at he ⊢; omega)
theorem reachR_mem (l : List Ed) (n x : Nd) : x ∈ reachR l n ↔ Rch l n x :=
 let h := reachF_spec (l.length + 1) [] (Rs.nil l n) (by simp)
 h.1.all h.2 x
theorem reachR_len (l : List Ed) (n : Nd) : (reachR l n).length ≤ l.length := (reachF_spec (l.length + 1) [] (Rs.nil l n) (by simp)).1.len
set_option maxHeartbeats 1000000 in
set_option maxRecDepth 100000 in
theorem refReach_calls (l : List Ed) (hl : l.length ≤ 1000000) (n : Nd) (g d : Nat) : ACalls E 10 [slEd l, encNd n] [] g d (slNd (reachR l n)) [] := by
 refine acalls_of_awp (fn := Tryz.f10) (N := 55) Tryz.call10 Tryz.func10 rfl rfl (by simp) ?_
 simp only [go_sem]
 refine awp_seq_k (fun K1 hK1 => ?_)
 refine awp_plain 2 (by kernel_rfl) rfl (fun g0 hg0 => ?_)
 simp only [go_sem]
 refine hK1 _ ?_
 refine awp_seq_k (fun K2 hK2 => ?_)
 refine awp_plain 1 (by kernel_rfl) rfl (fun g1 hg1 => ?_)
 simp only [go_sem]
 refine hK2 _ ?_
 refine awp_seq_k (fun K3 hK3 => ?_)
 refine awp_seq_k (fun K4 hK4 => ?_)
 refine awp_plain 1 (by kernel_rfl) rfl (fun g2 hg2 => ?_)
 simp only [go_sem]
 refine hK4 _ ?_
 refine awp_block ?_
 refine awp_nil 5 32 3 rfl fun gn hgn => ?_
 have hn : gn ≠ g0 := fresh_g hgn 3 0 (by simp [go_sem])
 refine awp_loop (fun m st => ∃ (a i : Nat) (R : List Nd) (c : Int), a ≠ g0 ∧ Rs l n R ∧ (c = R.length → R = reachR l n) ∧ (c ≠ R.length → ∃ f, l.length < f + R.length ∧ reachF l n f R = reachR l n) ∧ -1 ≤ c ∧ c ≤ 1000000 ∧ m = (if c = R.length then 0 else l.length + 1 - R.length) ∧
   Le { env := [(0, slEd l), (3, .ptr ⟨g0, 3, 0⟩ 0), (5, .own ⟨a, i, 0⟩ R.length), (6, dI c)], σ := [(⟨g0, 3, 0⟩, .box 32 (ndC n)), (⟨a, i, 0⟩, .arr 32 3 (R.map encNd))] } st) (l.length + 1) ?_ ?_
 ·refine ⟨gn, 0, [], -1, hn, Rs.nil l n, by simp, fun _ => ⟨l.length + 1, by simp, rfl⟩, by omega, by omega, by simp, le_of ?_⟩
  simp only [go_sem, hn, Ne.symm hn, List.map_nil, List.length_nil]
  all_goals first | done | exact rfl | exact ⟨rfl, rfl⟩ | trivial | omega
 ·rintro m st ⟨a, i, R, c, ha, hR, hc1, hc2, hcl, hcu, rfl, hle⟩
  refine awp_keep hle ?_
  clear hle
  have hRl := hR.len
  refine awp_seq_k (fun K5 hK5 => ?_)
  refine awp_seq_k (fun K6 hK6 => ?_)
  by_cases hc : c = (R.length : Int)
  ·have hRR := hc1 hc
   refine awp_plain 4 (by kernel_rfl) rfl (fun g3 hg3 => ?_)
   simp only [go_sem, hc, decide_true, Bool.not_true]
   refine hK6 _ ?_
   refine awp_f rfl ?_
   refine awp_exit ?_
   refine hK3 _ ?_
   refine awp_seq_k (fun K7 hK7 => ?_)
   refine awp_plain 2 (by kernel_rfl) rfl (fun g10 hg10 => ?_)
   simp only [go_sem]
   refine hK7 _ ?_
   refine awp_ret ?_
   refine ret_frz ⟨a, i, 0⟩ ?_
   simp only [go_sem, Ne.symm ha]
   refine ends_ev rfl ?_
   simp only [go_sem]
   exact Co.of_eq (by rw [← hRR])
  ·obtain ⟨f, hf, hff⟩ := hc2 hc
   rw [if_neg hc]
   clear hc1 hc2
   refine awp_plain 4 (by kernel_rfl) rfl (fun g3 hg3 => ?_)
   simp only [go_sem, hc, decide_false, Bool.not_false]
   refine hK6 _ ?_
   refine awp_t rfl ?_
   refine awp_skip ?_
   refine hK5 _ ?_
   refine awp_block ?_
   refine awp_seq_k (fun K8 hK8 => ?_)
   refine awp_plain 3 (by kernel_rfl) rfl (fun g4 hg4 => ?_)
   simp only [go_sem]
   refine hK8 _ ?_
   refine awp_seq_k (fun K9 hK9 => ?_)
   refine awp_plain 1 (by kernel_rfl) rfl (fun g5 hg5 => ?_)
   simp only [go_sem]
   refine hK9 _ ?_
   refine awp_block ?_
   refine awp_loop (fun m st => ∃ (k a i : Nat) (S : List Nd), k ≤ l.length ∧ m = l.length - k ∧ a ≠ g0 ∧ S = (l.take k).foldl (roundR n) R ∧
     Le { env := [(0, slEd l), (3, .ptr ⟨g0, 3, 0⟩ 0), (5, .own ⟨a, i, 0⟩ S.length), (6, dN R.length), (7, dN k)], σ := [(⟨g0, 3, 0⟩, .box 32 (ndC n)), (⟨a, i, 0⟩, .arr 32 3 (S.map encNd))] } st) l.length ?_ ?_
   ·refine ⟨0, a, i, R, Nat.zero_le _, rfl, ha, rfl, le_of ?_⟩
    simp only [go_sem, ha, Ne.symm ha]
    all_goals first | done | exact rfl | exact ⟨rfl, rfl⟩ | trivial | omega
   ·rintro m st ⟨k, a, i, S, hk, rfl, ha, hS, hle⟩
    refine awp_keep hle ?_
    clear hle
    refine awp_seq_k (fun K10 hK10 => ?_)
    refine awp_seq_k (fun K11 hK11 => ?_)
    by_cases hlt : k < l.length
    ·have hgm := getM (f := encEd) hlt
     have hin := List.getElem_mem hlt
     have hnext : (l.take (k + 1)).foldl (roundR n) R = roundR n S l[k] := by rw [foldTake _ _ hlt, ← hS]
     have hSr : Rs l n S := hS ▸ foldR_rs _ R (fun e he => List.mem_of_mem_take he) hR
     have hSl := hSr.len
     generalize l[k] = X at *
     refine awp_plain 4 (by kernel_rfl) rfl (fun g6 hg6 => ?_)
     simp only [go_sem, hlt, decide_true]
     refine hK11 _ ?_
     refine awp_t rfl ?_
     refine awp_skip ?_
     refine hK10 _ ?_
     refine awp_seq_k (fun K12 hK12 => ?_)
     refine awp_block ?_
     refine awp_seq_k (fun K13 hK13 => ?_)
     have cF := fun g d => refHasO_calls S (by omega) X.frm a i g d
     have cT := fun g d => refHasO_calls S (by omega) X.to a i g d
     cases hT : memB X.to S with
     | true =>
      have hno : roundR n S X = S := by
       unfold roundR
       rw [if_neg (fun h => by rw [hT] at h; cases h.2)]
      rw [hno] at hnext
      by_cases hX : X.frm = n
      ·have e1 := congrArg Nd.method hX
       have e2 := congrArg Nd.name hX
       have e3 := congrArg Nd.idx hX
       refine awp_anyq (by kernel_rfl) rfl (fun g8 hg8 ops8 KR8 hops8 hKR8 => ?_)
       refine qrun_eval 23 hops8 ?_
       simp only [go_sem, hgm, e1, e2, e3, decide_true, and_self, ha]
       refine qrun_call (nw := []) (σs := [(⟨a, i, 0⟩, .arr 32 3 (S.map encNd))]) hops8 rfl rfl rfl (cT _ _) (CoL.refl _) (by simp [go_sem, Ne.symm ha]) rfl ?_
       refine qrun_last 2 hops8 ?_
       simp only [go_sem, hT, Bool.not_true]
       refine hKR8 _ ?_
       refine hK13 _ ?_
       refine awp_f rfl ?_
       refine awp_skip ?_
       refine hK12 _ ?_
       refine awp_plain 3 (by kernel_rfl) rfl (fun g7 hg7 => ?_)
       simp only [go_sem]
       try simp (disch := omega) only [wrapN]
       refine ⟨_, ?_, k + 1, a, i, S, hlt, rfl, ha, hnext.symm, le_of ?_⟩
       ·omega
       simp only [go_sem, ha, Ne.symm ha]
       all_goals first | done | exact rfl | exact ⟨rfl, rfl⟩ | trivial | omega
      ·cases hF : memB X.frm S with
       | true =>
        have hne := ndEq hX
        refine awp_anyq (by kernel_rfl) rfl (fun g8 hg8 ops8 KR8 hops8 hKR8 => ?_)
        refine qrun_eval 14 hops8 ?_
        simp only [go_sem, hgm, hne, decide_false, ha]
        refine qrun_call (nw := []) (σs := [(⟨a, i, 0⟩, .arr 32 3 (S.map encNd))]) hops8 rfl rfl rfl (cF _ _) (CoL.refl _) (by simp [go_sem, Ne.symm ha]) rfl ?_
        refine qrun_eval 8 hops8 ?_
        simp only [go_sem, hgm, hF]
        refine qrun_call (nw := []) (σs := [(⟨a, i, 0⟩, .arr 32 3 (S.map encNd))]) hops8 rfl rfl rfl (cT _ _) (CoL.refl _) (by simp [go_sem, Ne.symm ha]) rfl ?_
        refine qrun_last 2 hops8 ?_
        simp only [go_sem, hT, Bool.not_true]
        refine hKR8 _ ?_
        refine hK13 _ ?_
        refine awp_f rfl ?_
        refine awp_skip ?_
        refine hK12 _ ?_
        refine awp_plain 3 (by kernel_rfl) rfl (fun g7 hg7 => ?_)
        simp only [go_sem]
        try simp (disch := omega) only [wrapN]
        refine ⟨_, ?_, k + 1, a, i, S, hlt, rfl, ha, hnext.symm, le_of ?_⟩
        ·omega
        simp only [go_sem, ha, Ne.symm ha]
        all_goals first | done | exact rfl | exact ⟨rfl, rfl⟩ | trivial | omega
       | false =>
        have hne := ndEq hX
        refine awp_anyq (by kernel_rfl) rfl (fun g8 hg8 ops8 KR8 hops8 hKR8 => ?_)
        refine qrun_eval 14 hops8 ?_
        simp only [go_sem, hgm, hne, decide_false, ha]
        refine qrun_call (nw := []) (σs := [(⟨a, i, 0⟩, .arr 32 3 (S.map encNd))]) hops8 rfl rfl rfl (cF _ _) (CoL.refl _) (by simp [go_sem, Ne.symm ha]) rfl ?_
        refine qrun_last 11 hops8 ?_
        simp only [go_sem, hF]
        refine hKR8 _ ?_
        refine hK13 _ ?_
        refine awp_f rfl ?_
        refine awp_skip ?_
        refine hK12 _ ?_
        refine awp_plain 3 (by kernel_rfl) rfl (fun g7 hg7 => ?_)
        simp only [go_sem]
        try simp (disch := omega) only [wrapN]
        refine ⟨_, ?_, k + 1, a, i, S, hlt, rfl, ha, hnext.symm, le_of ?_⟩
        ·omega
        simp only [go_sem, ha, Ne.symm ha]
        all_goals first | done | exact rfl | exact ⟨rfl, rfl⟩ | trivial | omega
     | false =>
      by_cases hX : X.frm = n
      ·have hyes : roundR n S X = S ++ [X.to] := by
        unfold roundR
        rw [if_pos ⟨.inl hX, hT⟩]
       rw [hyes] at hnext
       have e1 := congrArg Nd.method hX
       have e2 := congrArg Nd.name hX
       have e3 := congrArg Nd.idx hX
       refine awp_anyq (by kernel_rfl) rfl (fun g8 hg8 ops8 KR8 hops8 hKR8 => ?_)
       refine qrun_eval 23 hops8 ?_
       simp only [go_sem, hgm, e1, e2, e3, decide_true, and_self, ha]
       refine qrun_call (nw := []) (σs := [(⟨a, i, 0⟩, .arr 32 3 (S.map encNd))]) hops8 rfl rfl rfl (cT _ _) (CoL.refl _) (by simp [go_sem, Ne.symm ha]) rfl ?_
       refine qrun_last 2 hops8 ?_
       simp only [go_sem, hT, Bool.not_false]
       refine hKR8 _ ?_
       refine hK13 _ ?_
       refine awp_t rfl ?_
       refine awp_ops (by kernel_rfl) rfl (fun g9 hg9 ops9 KR9 hops9 hKR9 => ?_)
       refine aops_eval 7 hops9 ?_
       simp only [go_sem, hgm]
       refine aops_app hops9 rfl rfl rfl rfl rfl es38 sz32 by32 ze32 rfl (by decide) ?_
       simp only [go_sem, Ne.symm ha]
       first | refine ⟨⟨by omega, by omega⟩, ?_⟩ | skip
       have hn9_g0 : g9 ≠ g0 := fresh_g hg9 3 0 (by simp [go_sem])
       refine aops_last 1 hops9 ?_
       simp only [go_sem]
       refine hKR9 _ ?_
       refine hK12 _ ?_
       refine awp_plain 3 (by kernel_rfl) rfl (fun g7 hg7 => ?_)
       simp only [go_sem]
       try simp (disch := omega) only [wrapN]
       refine ⟨_, ?_, k + 1, g9, 53, S ++ [X.to], hlt, rfl, hn9_g0, hnext.symm, le_of ?_⟩
       ·omega
       simp only [go_sem, List.length_append, List.map_append, List.length_singleton, hn9_g0, Ne.symm hn9_g0]
       all_goals first | done | exact rfl | exact ⟨rfl, rfl⟩ | trivial | omega
      ·cases hF : memB X.frm S with
       | true =>
        have hyes : roundR n S X = S ++ [X.to] := by
         unfold roundR
         rw [if_pos ⟨.inr hF, hT⟩]
        rw [hyes] at hnext
        have hne := ndEq hX
        refine awp_anyq (by kernel_rfl) rfl (fun g8 hg8 ops8 KR8 hops8 hKR8 => ?_)
        refine qrun_eval 14 hops8 ?_
        simp only [go_sem, hgm, hne, decide_false, ha]
        refine qrun_call (nw := []) (σs := [(⟨a, i, 0⟩, .arr 32 3 (S.map encNd))]) hops8 rfl rfl rfl (cF _ _) (CoL.refl _) (by simp [go_sem, Ne.symm ha]) rfl ?_
        refine qrun_eval 8 hops8 ?_
        simp only [go_sem, hgm, hF]
        refine qrun_call (nw := []) (σs := [(⟨a, i, 0⟩, .arr 32 3 (S.map encNd))]) hops8 rfl rfl rfl (cT _ _) (CoL.refl _) (by simp [go_sem, Ne.symm ha]) rfl ?_
        refine qrun_last 2 hops8 ?_
        simp only [go_sem, hT, Bool.not_false]
        refine hKR8 _ ?_
        refine hK13 _ ?_
        refine awp_t rfl ?_
        refine awp_ops (by kernel_rfl) rfl (fun g9 hg9 ops9 KR9 hops9 hKR9 => ?_)
        refine aops_eval 7 hops9 ?_
        simp only [go_sem, hgm]
        refine aops_app hops9 rfl rfl rfl rfl rfl es38 sz32 by32 ze32 rfl (by decide) ?_
        simp only [go_sem, Ne.symm ha]
        first | refine ⟨⟨by omega, by omega⟩, ?_⟩ | skip
        have hn9_g0 : g9 ≠ g0 := fresh_g hg9 3 0 (by simp [go_sem])
        refine aops_last 1 hops9 ?_
        simp only [go_sem]
        refine hKR9 _ ?_
        refine hK12 _ ?_
        refine awp_plain 3 (by kernel_rfl) rfl (fun g7 hg7 => ?_)
        simp only [go_sem]
        try simp (disch := omega) only [wrapN]
        refine ⟨_, ?_, k + 1, g9, 53, S ++ [X.to], hlt, rfl, hn9_g0, hnext.symm, le_of ?_⟩
        ·omega
        simp only [go_sem, List.length_append, List.map_append, List.length_singleton, hn9_g0, Ne.symm hn9_g0]
        all_goals first | done | exact rfl | exact ⟨rfl, rfl⟩ | trivial | omega
       | false =>
        have hno : roundR n S X = S := by
         unfold roundR
         rw [if_neg (fun h => h.1.elim hX fun h => by rw [hF] at h; cases h)]
        rw [hno] at hnext
        have hne := ndEq hX
        refine awp_anyq (by kernel_rfl) rfl (fun g8 hg8 ops8 KR8 hops8 hKR8 => ?_)
        refine qrun_eval 14 hops8 ?_
        simp only [go_sem, hgm, hne, decide_false, ha]
        refine qrun_call (nw := []) (σs := [(⟨a, i, 0⟩, .arr 32 3 (S.map encNd))]) hops8 rfl rfl rfl (cF _ _) (CoL.refl _) (by simp [go_sem, Ne.symm ha]) rfl ?_
        refine qrun_last 11 hops8 ?_
        simp only [go_sem, hF]
        refine hKR8 _ ?_
        refine hK13 _ ?_
        refine awp_f rfl ?_
        refine awp_skip ?_
        refine hK12 _ ?_
        refine awp_plain 3 (by kernel_rfl) rfl (fun g7 hg7 => ?_)
        simp only [go_sem]
        try simp (disch := omega) only [wrapN]
        refine ⟨_, ?_, k + 1, a, i, S, hlt, rfl, ha, hnext.symm, le_of ?_⟩
        ·omega
        simp only [go_sem, ha, Ne.symm ha]
        all_goals first | done | exact rfl | exact ⟨rfl, rfl⟩ | trivial | omega
    ·have : k = l.length := by omega
     subst this
     rw [List.take_length] at hS
     change S = passR l n R at hS
     have hSr : Rs l n S := hS ▸ foldR_rs _ R (fun e he => he) hR
     have hSl := hSr.len
     have hge := foldR_len n l R
     change R.length ≤ (passR l n R).length at hge
     rw [← hS] at hge
     refine awp_plain 4 (by kernel_rfl) rfl (fun g6 hg6 => ?_)
     simp only [go_sem, hlt, decide_false]
     refine hK11 _ ?_
     refine awp_f rfl ?_
     refine awp_exit ?_
     refine ⟨_, ?_, a, i, S, (R.length : Int), ha, hSr, fun he => ?_, fun he => ?_, by omega, by omega, rfl, le_of ?_⟩
     ·split <;> omega
     ·have he' : (passR l n R).length = R.length := by rw [← hS]; omega
      have h1 := (foldR_same n l R he').1
      change passR l n R = R at h1
      cases f with
      | zero => omega
      | succ f =>
       unfold reachF at hff
       rw [if_pos he'] at hff
       rw [hS, h1, hff]
     ·have he' : ¬ (passR l n R).length = R.length := by rw [← hS]; omega
      cases f with
      | zero => omega
      | succ f =>
       unfold reachF at hff
       rw [if_neg he', ← hS] at hff
       exact ⟨f, by omega, hff⟩
     simp only [go_sem, ha, Ne.symm ha]
     all_goals first | done | exact rfl | exact ⟨rfl, rfl⟩ | trivial | omega
end Go.Proofs.T
namespace Go.Proofs.T
open Go Go.Ab Go.RowKit
open Classical in
noncomputable def scan1 (x : Nd) (es : Ms) (e : Ed) : Ms := if e.frm = x ∧ lookM es e.to = none then es ++ [(e.to, e)] else es
noncomputable def scanE (l : List Ed) (x : Nd) (es : Ms) : Ms := l.foldl (scan1 x) es
noncomputable def bfsK (l : List Ed) (n : Nd) : Nat → Ms → Nat → Ms
 | 0, es, _ => es
 | f + 1, es, k => match (allN n es)[k]? with | none => es | some x => bfsK l n f (scanE l x es) (k + 1)
noncomputable def bfsF (l : List Ed) (n : Nd) : Ms := bfsK l n (l.length + 2) [] 0
theorem scan1_pre (x : Nd) (es : Ms) (e : Ed) : ∃ t, scan1 x es e = es ++ t := by
 unfold scan1
 split
 ·exact ⟨_, rfl⟩
 ·exact ⟨[], by simp⟩
theorem scanE_pre (x : Nd) : ∀ (m : List Ed) (es : Ms), ∃ t, m.foldl (scan1 x) es = es ++ t
 | [], es => ⟨[], by simp⟩
 | e :: m, es => by
  obtain ⟨t, ht⟩ := scan1_pre x es e
  obtain ⟨t2, ht2⟩ := scanE_pre x m (es ++ t)
  exact ⟨t ++ t2, by rw [List.foldl_cons, ht, ht2, List.append_assoc]⟩
theorem allN_pre (n : Nd) (es t : Ms) : allN n (es ++ t) = allN n es ++ keysM t := by simp [allN, keysM]
theorem Clo.pre {l : List Ed} {x : Nd} {es : Ms} (h : Clo l x es) (t : Ms) : Clo l x (es ++ t) := fun e he hf => by
 have := h e he hf
 unfold keysM at *
 rw [List.map_append]
 exact List.mem_append_left _ this
theorem scan1_bfs {l : List Ed} {n x : Nd} {es : Ms} (h : Bfs l n es) {e : Ed} (he : e ∈ l) (hx : x ∈ allN n es) : Bfs l n (scan1 x es e) := by
 unfold scan1
 split
 ·rename_i hc
  exact h.add he ((lookM_none _ _).1 hc.2) (hc.1 ▸ hx)
 ·exact h
theorem scanE_bfs {l : List Ed} {n x : Nd} : ∀ (m : List Ed) (es : Ms), (∀ e ∈ m, e ∈ l) → Bfs l n es → x ∈ allN n es → Bfs l n (m.foldl (scan1 x) es)
 | [], _, _, h, _ => h
 | e :: m, es, hm, h, hx => by
  rw [List.foldl_cons]
  refine scanE_bfs m _ (fun y hy => hm y (List.mem_cons_of_mem _ hy)) (scan1_bfs h (hm e List.mem_cons_self) hx) ?_
  obtain ⟨t, ht⟩ := scan1_pre x es e
  rw [ht, allN_pre]
  exact List.mem_append_left _ hx
theorem scanE_clo (x : Nd) : ∀ (m : List Ed) (es : Ms), ∀ e ∈ m, e.frm = x → e.to ∈ keysM (m.foldl (scan1 x) es)
 | [], _, e, he, _ => nomatch he
 | y :: m, es, e, he, hf => by
  rw [List.foldl_cons]
  rcases List.mem_cons.1 he with rfl | he
  ·have h1 : e.to ∈ keysM (scan1 x es e) := by
    unfold scan1
    split
    ·rw [keysM_add]
     exact List.mem_append_right _ (List.mem_singleton.2 rfl)
    ·rename_i hc
     refine Classical.byContradiction fun hn => hc ⟨hf, (lookM_none _ _).2 hn⟩
   obtain ⟨t, ht⟩ := scanE_pre x m (scan1 x es e)
   rw [ht]
   unfold keysM at *
   rw [List.map_append]
   exact List.mem_append_left _ h1
  ·exact scanE_clo x m _ e he hf
theorem bfsK_spec {l : List Ed} {n : Nd} : ∀ (f : Nat) (es : Ms) (k : Nat), Bfs l n es → (∀ i x, i < k → (allN n es)[i]? = some x → Clo l x es) → l.length + 2 ≤ f + k → Bfs l n (bfsK l n f es k) ∧ ∀ x ∈ allN n (bfsK l n f es k), Clo l x (bfsK l n f es k)
 | 0, es, k, h, hc, hf => ⟨h, fun x hx => by
  obtain ⟨i, hi, rfl⟩ := List.mem_iff_getElem.1 hx
  have := h.len
  have h2 := allN_len n es
  change i < (allN n es).length at hi
  exact hc i _ (by omega) (List.getElem?_eq_getElem hi)⟩
 | f + 1, es, k, h, hc, hf => by
  unfold bfsK
  cases hk : (allN n es)[k]? with
  | none =>
   show Bfs l n es ∧ ∀ x ∈ allN n es, Clo l x es
   refine ⟨h, fun x hx => ?_⟩
   obtain ⟨i, hi, rfl⟩ := List.mem_iff_getElem.1 hx
   have := List.getElem?_eq_none_iff.1 hk
   exact hc i _ (by omega) (List.getElem?_eq_getElem hi)
  | some x =>
   obtain ⟨hkl, hkx⟩ := List.getElem?_eq_some_iff.1 hk
   have hx : x ∈ allN n es := hkx ▸ List.getElem_mem hkl
   obtain ⟨t, ht⟩ := scanE_pre x l es
   change scanE l x es = es ++ t at ht
   refine bfsK_spec f _ (k + 1) (scanE_bfs l es (fun _ h => h) h hx) (fun i y hi hy => ?_) (by omega)
   rw [ht, allN_pre, List.getElem?_append_left (by omega)] at hy
   by_cases hik : i = k
   ·subst hik
    rw [hk] at hy
    cases hy
    exact fun e he hf => scanE_clo x l es e he hf
   ·rw [ht]
    exact (hc i y (by omega) hy).pre t
theorem bfsF_spec (l : List Ed) (n : Nd) : Bfs l n (bfsF l n) ∧ ∀ x ∈ allN n (bfsF l n), Clo l x (bfsF l n) :=
 bfsK_spec (l.length + 2) [] 0 (Bfs.nil l n) (fun _ _ h => absurd h (Nat.not_lt_zero _)) (by omega)
theorem bfsF_mem (l : List Ed) (n x : Nd) : x ∈ keysM (bfsF l n) ↔ Rch l n x := (bfsF_spec l n).1.all (bfsF_spec l n).2 x
theorem mget_m3 (es : Ms) (a : Bool) (b : Str) (c : Int) : mget (encM es) (.agg #[.bool a, .string b, .int .i64 c]) = (lookM es ⟨a, b, c⟩).map encEd := mget_m es ⟨a, b, c⟩
theorem mput_m3 {es : Ms} {x : Nd} {e : Ed} (h : lookM es x = none) : mput (encM es) (.agg #[.bool x.method, .string x.name, .int .i64 x.idx]) (.agg [dB e.frm.method, .val (.string e.frm.name), dI e.frm.idx, dB e.to.method, .val (.string e.to.name), dI e.to.idx, dB e.ins]) = encM (es ++ [(x, e)]) := mput_m es x e h
set_option maxHeartbeats 1000000 in
set_option maxRecDepth 100000 in
theorem search_calls (l : List Ed) (hl : l.length ≤ 1000000) (n : Nd) (g d : Nat) : ACalls E 30 [slEd l, encNd n] [] g d (.fmap ksM (encM (bfsF l n))) [] := by
 refine acalls_of_awp (fn := Tryz.f30) (N := 53) Tryz.call30 Tryz.func30 rfl rfl (by simp) ?_
 simp only [go_sem]
 refine awp_seq_k (fun K1 hK1 => ?_)
 refine awp_plain 2 (by kernel_rfl) rfl (fun g0 hg0 => ?_)
 simp only [go_sem]
 refine hK1 _ ?_
 refine awp_seq_k (fun K2 hK2 => ?_)
 refine awp_plain 2 (by kernel_rfl) rfl (fun g1 hg1 => ?_)
 simp only [go_sem]
 refine hK2 _ ?_
 refine awp_seq_k (fun K3 hK3 => ?_)
 have hn1_g0 : g1 ≠ g0 := fresh_g hg1 3 0 (by simp [go_sem])
 refine awp_ops (by kernel_rfl) rfl (fun g2 hg2 ops2 KR2 hops2 hKR2 => ?_)
 refine aops_eval 1 hops2 ?_
 simp only [go_sem, hn1_g0]
 refine aops_lit hops2 rfl rfl rfl es35 sz37 ([encNd n]) (by simp only [go_sem]) ?_
 simp only [go_sem]
 have hn2_g0 : g2 ≠ g0 := fresh_g hg2 3 0 (by simp [go_sem, hn1_g0])
 have hn2_g1 : g2 ≠ g1 := fresh_g hg2 12 0 (by simp [go_sem])
 refine aops_last 1 hops2 ?_
 simp only [go_sem]
 refine hKR2 _ ?_
 refine hK3 _ ?_
 refine awp_seq_k (fun K4 hK4 => ?_)
 refine awp_block ?_
 refine awp_osl 6 ⟨g2, 14, 0⟩ (rows := [encNd n]) (el := 37) (k := 3) rfl (by simp only [go_sem]) (Nat.zero_lt_succ _) ?_
 refine awp_loop (fun m st => ∃ (f k : Nat) (es : Ms) (a i off q : Nat) (rows : List D), Bfs l n es ∧ f + k = l.length + 2 ∧ bfsK l n f es k = bfsF l n ∧ m = f ∧ a ≠ g1 ∧ off + q = rows.length ∧ rows.length ≤ es.length + 1 ∧ q + k = es.length + 1 ∧ rows.drop off = ((allN n es).drop k).map encNd ∧
   Le { env := [(0, slEd l), (5, .mref ⟨g1, 12, 0⟩), (6, .osl ⟨a, i, 0⟩ 3 off q)], σ := [(⟨g1, 12, 0⟩, .map ksM (encM es)), (⟨a, i, 0⟩, .arr 37 3 rows)] } st) (l.length + 2) ?_ ?_
 ·refine ⟨l.length + 2, 0, [], g2, 14, 0, 1, [encNd n], Bfs.nil l n, rfl, rfl, rfl, hn2_g1, rfl, Nat.le_refl _, rfl, rfl, le_of ?_⟩
  simp only [go_sem, Ne.symm hn1_g0, Ne.symm hn2_g0, hn2_g1, Ne.symm hn2_g1]
  all_goals first | done | exact rfl | exact ⟨rfl, rfl⟩ | trivial | omega
 ·rintro m st ⟨m2, k, es, a, i, off, q, rows, hB, hfk, hK, hm2, ha, hoq, hrl, hqk, hdr, hle⟩
  subst hm2
  refine awp_keep hle ?_
  clear hle
  have hBl := hB.len
  refine awp_seq_k (fun K5 hK5 => ?_)
  refine awp_seq_k (fun K6 hK6 => ?_)
  cases q with
  | zero =>
   have hres : es = bfsF l n := by
    cases m with
    | zero => exact hK
    | succ m =>
     unfold bfsK at hK
     have : (allN n es)[k]? = none := List.getElem?_eq_none (by rw [allN_len]; omega)
     rw [this] at hK
     exact hK
   refine awp_plain 3 (by kernel_rfl) rfl (fun g3 hg3 => ?_)
   simp only [go_sem, show ((0 : Int) < ((0 : Nat) : Int)) = False from eq_false (by decide), decide_false]
   refine hK6 _ ?_
   refine awp_f rfl ?_
   refine awp_exit ?_
   refine hK4 _ ?_
   refine awp_seq_k (fun K7 hK7 => ?_)
   refine awp_fmap ⟨g1, 12, 0⟩ ?_
   simp only [go_sem, ha]
   refine awp_plain 2 (by kernel_rfl) rfl (fun g15 hg15 => ?_)
   simp only [go_sem]
   refine hK7 _ ?_
   refine awp_ret ?_
   refine ends_ev rfl ?_
   simp only [go_sem]
   exact Co.of_eq (by rw [hres])
  | succ q =>
   have hpos : 0 < ((q + 1 : Nat) : Int) := by omega
   have hkl : k < (allN n es).length := by rw [allN_len]; omega
   have hx : (allN n es)[k]? = some (allN n es)[k] := List.getElem?_eq_getElem hkl
   have hxm : (allN n es)[k] ∈ allN n es := List.getElem_mem hkl
   have hrow : rows[off]? = some (encNd (allN n es)[k]) := by
    have h1 : (rows.drop off)[0]? = rows[off]? := List.getElem?_drop
    rw [← h1, hdr, List.getElem?_map, List.getElem?_drop, Nat.add_zero, hx]
    rfl
   have hnk : ∀ f', m = f' + 1 → bfsK l n f' (scanE l (allN n es)[k] es) (k + 1) = bfsF l n := fun f' hf => by
    subst hf
    unfold bfsK at hK
    rw [hx] at hK
    exact hK
   have hd2 : rows.drop (off + 1) = ((allN n es).drop (k + 1)).map encNd := by
    have h1 : (rows.drop off).drop 1 = rows.drop (off + 1) := by rw [List.drop_drop]
    rw [← h1, hdr, ← List.map_drop, List.drop_drop]
   generalize (allN n es)[k] = x at *
   have hle1 : off + (q + 1) ≤ rows.length := by omega
   have hone : (1 : Int) ≤ ((q + 1 : Nat) : Int) := by omega
   have hsub : (((q + 1 : Nat) : Int) - 1).toNat = q := by omega
   refine awp_plain 3 (by kernel_rfl) rfl (fun g3 hg3 => ?_)
   simp only [go_sem, hpos, decide_true]
   refine hK6 _ ?_
   refine awp_t rfl ?_
   refine awp_skip ?_
   refine hK5 _ ?_
   refine awp_block ?_
   refine awp_scope rfl ?_
   refine awp_seq_k (fun K8 hK8 => ?_)
   refine awp_plain 5 (by kernel_rfl) rfl (fun g4 hg4 => ?_)
   simp only [go_sem, hpos, hle1, hrow, Nat.add_zero, Ne.symm ha]
   refine hK8 _ ?_
   refine awp_seq_k (fun K9 hK9 => ?_)
   have hn4_g1 : g4 ≠ g1 := fresh_g hg4 12 0 (by simp [go_sem])
   have hn4_a : g4 ≠ a := fresh_g hg4 i 0 (by simp [go_sem, Ne.symm ha])
   refine awp_plain 3 (by kernel_rfl) rfl (fun g5 hg5 => ?_)
   simp only [go_sem, hone, hsub, Int.le_refl]
   refine hK9 _ ?_
   refine awp_seq_k (fun K10 hK10 => ?_)
   refine awp_label ?_
   refine hK10 _ ?_
   refine awp_seq_k (fun K11 hK11 => ?_)
   refine awp_plain 3 (by kernel_rfl) rfl (fun g6 hg6 => ?_)
   simp only [go_sem]
   refine hK11 _ ?_
   refine awp_block ?_
   refine awp_loop (fun m st => ∃ (j a i off q : Nat) (rows : List D) (es' : Ms), j ≤ l.length ∧ m = l.length - j ∧ es' = (l.take j).foldl (scan1 x) es ∧ a ≠ g1 ∧ a ≠ g4 ∧ off + q = rows.length ∧ rows.length ≤ es'.length + 1 ∧ q + k = es'.length ∧ rows.drop off = ((allN n es').drop (k + 1)).map encNd ∧
     Le { env := [(0, slEd l), (5, .mref ⟨g1, 12, 0⟩), (6, .osl ⟨a, i, 0⟩ 3 off q), (7, .ptr ⟨g4, 7, 0⟩ 0), (23, slEd l), (24, dN l.length), (25, dN j)], σ := [(⟨g1, 12, 0⟩, .map ksM (encM es')), (⟨a, i, 0⟩, .arr 37 3 rows), (⟨g4, 7, 0⟩, .box 37 (ndC x))] } st) l.length ?_ ?_
   ·refine ⟨0, a, i, off + 1, q, rows, es, Nat.zero_le _, rfl, rfl, ha, Ne.symm hn4_a, by omega, hrl, by omega, hd2, le_of ?_⟩
    simp only [go_sem, ha, Ne.symm ha, hn4_g1, Ne.symm hn4_g1, hn4_a, Ne.symm hn4_a]
    all_goals first | done | exact rfl | exact ⟨rfl, rfl⟩ | trivial | omega
   ·clear hdr hd2 hrow hle1 hoq hrl ha hqk
    rintro m1 st ⟨j, a, i, off, q, rows, es', hj, rfl, hes, ha, ha4, hoq, hrl, hqk, hdr, hle⟩
    refine awp_keep hle ?_
    clear hle
    refine awp_seq_k (fun K12 hK12 => ?_)
    by_cases hlj : j < l.length
    ·have hgm := getM (f := encEd) hlj
     have hnext : (l.take (j + 1)).foldl (scan1 x) es = scan1 x es' l[j] := by rw [foldTake _ _ hlj, ← hes]
     have hB2 : Bfs l n es' := hes ▸ scanE_bfs _ es (fun e he => List.mem_of_mem_take he) hB hxm
     have hB2l := hB2.len
     have hin := List.getElem_mem hlj
     generalize l[j] = X at *
     have hnx : ∀ Y, scan1 x es' X = Y → (l.take (j + 1)).foldl (scan1 x) es = Y := fun Y h => hnext.trans h
     refine awp_plain 1 (by kernel_rfl) rfl (fun g7 hg7 => ?_)
     simp only [go_sem, hlj, decide_true]
     refine hK12 _ ?_
     refine awp_seq_k (fun K13 hK13 => ?_)
     refine awp_t rfl ?_
     refine awp_skip ?_
     refine hK13 _ ?_
     refine awp_seq_k (fun K14 hK14 => ?_)
     refine awp_block ?_
     refine awp_seq_k (fun K15 hK15 => ?_)
     refine awp_plain 4 (by kernel_rfl) rfl (fun g8 hg8 => ?_)
     simp only [go_sem, hgm]
     refine hK15 _ ?_
     refine awp_seq_k (fun K16 hK16 => ?_)
     refine awp_seq_k (fun K17 hK17 => ?_)
     have hn8_g1 : g8 ≠ g1 := fresh_g hg8 12 0 (by simp [go_sem])
     have hn8_a : g8 ≠ a := fresh_g hg8 i 0 (by simp [go_sem, Ne.symm ha])
     have hn8_g4 : g8 ≠ g4 := fresh_g hg8 7 0 (by simp [go_sem, Ne.symm hn4_g1, ha4])
     by_cases hX : X.frm = x
     ·have e1 := congrArg Nd.method hX
      have e2 := congrArg Nd.name hX
      have e3 := congrArg Nd.idx hX
      refine awp_plain 4 (by kernel_rfl) rfl (fun g9 hg9 => ?_)
      simp only [go_sem, e1, e2, e3, decide_true, and_self, Bool.not_true, Ne.symm hn4_g1, ha4, Ne.symm hn8_g1, Ne.symm hn8_a, hn8_g4, Ne.symm hn8_g4]
      refine hK17 _ ?_
      refine awp_f rfl ?_
      refine awp_skip ?_
      refine hK16 _ ?_
      refine awp_seq_k (fun K18 hK18 => ?_)
      cases hT : lookM es' X.to with
      | some e2 =>
       have hno : scan1 x es' X = es' := by
        unfold scan1
        rw [if_neg (fun h => by rw [hT] at h; cases h.2)]
       rw [hno] at hnext
       refine awp_plain 10 (by kernel_rfl) rfl (fun g10 hg10 => ?_)
       simp only [go_sem, mget_m3, Nd.eta, hT, Option.map_some, hn4_g1, ha, hn8_g1, Ne.symm hn8_g1, Ne.symm hn8_a, Ne.symm hn8_g4]
       refine hK18 _ ?_
       refine awp_seq_k (fun K19 hK19 => ?_)
       have hn10_g1 : g10 ≠ g1 := fresh_g hg10 12 0 (by simp [go_sem, hn8_g1])
       have hn10_a : g10 ≠ a := fresh_g hg10 i 0 (by simp [go_sem, Ne.symm ha, hn8_a])
       have hn10_g4 : g10 ≠ g4 := fresh_g hg10 7 0 (by simp [go_sem, Ne.symm hn4_g1, ha4, hn8_g4])
       have hn10_g8 : g10 ≠ g8 := fresh_g hg10 9 0 (by simp [go_sem])
       refine awp_plain 2 (by kernel_rfl) rfl (fun g11 hg11 => ?_)
       simp only [go_sem]
       refine hK19 _ ?_
       refine awp_f rfl ?_
       refine awp_skip ?_
       refine hK14 _ ?_
       refine awp_plain 2 (by kernel_rfl) rfl (fun g14 hg14 => ?_)
       simp only [go_sem]
       try simp (disch := omega) only [wrapN]
       refine ⟨_, ?_, j + 1, a, i, off, q, rows, es', hlj, rfl, hnext.symm, ha, ha4, hoq, hrl, hqk, hdr, le_of ?_⟩
       ·omega
       simp only [go_sem, hn4_g1, Ne.symm hn4_g1, ha, Ne.symm ha, ha4, Ne.symm ha4, hn8_g1, hn8_a, hn8_g4, hn10_g1, hn10_a, hn10_g4]
       all_goals first | done | exact rfl | exact ⟨rfl, rfl⟩ | trivial | omega
      | none =>
       have hyes : scan1 x es' X = es' ++ [(X.to, X)] := by
        unfold scan1
        rw [if_pos ⟨hX, hT⟩]
       rw [hyes] at hnext
       have hput := mput_m3 hT (e := X)
       rw [e1, e2, e3] at hput
       refine awp_plain 10 (by kernel_rfl) rfl (fun g10 hg10 => ?_)
       simp only [go_sem, mget_m3, Nd.eta, hT, Option.map_none, hn4_g1, ha, hn8_g1, Ne.symm hn8_g1, Ne.symm hn8_a, Ne.symm hn8_g4]
       refine hK18 _ ?_
       refine awp_seq_k (fun K20 hK20 => ?_)
       have hn10_g1 : g10 ≠ g1 := fresh_g hg10 12 0 (by simp [go_sem, hn8_g1])
       have hn10_a : g10 ≠ a := fresh_g hg10 i 0 (by simp [go_sem, Ne.symm ha, hn8_a])
       have hn10_g4 : g10 ≠ g4 := fresh_g hg10 7 0 (by simp [go_sem, Ne.symm hn4_g1, ha4, hn8_g4])
       have hn10_g8 : g10 ≠ g8 := fresh_g hg10 9 0 (by simp [go_sem])
       refine awp_plain 2 (by kernel_rfl) rfl (fun g11 hg11 => ?_)
       simp only [go_sem]
       refine hK20 _ ?_
       refine awp_t rfl ?_
       refine awp_seq_k (fun K21 hK21 => ?_)
       refine awp_plain 5 (by kernel_rfl) rfl (fun g12 hg12 => ?_)
       simp only [go_sem, hput, hn4_g1, ha, hn8_g1, Ne.symm hn8_g1, Ne.symm hn8_a, Ne.symm hn8_g4, hn10_g1, hn10_g8]
       refine hK21 _ ?_
       refine awp_ops (by kernel_rfl) rfl (fun g13 hg13 ops13 KR13 hops13 hKR13 => ?_)
       refine aops_eval 4 hops13 ?_
       simp only [go_sem, Ne.symm hn8_g1, Ne.symm hn8_a, Ne.symm hn8_g4, hn10_g8]
       refine aops_appq hops13 rfl rfl rfl rfl rfl es35 sz37 by37 ze37 rfl (by decide) (rows) (by simp only [go_sem, Ne.symm ha, Ne.symm ha4, hn8_a, hn10_a]) (hoq) (okRowsNd [X.to]) (Nat.zero_lt_succ _) (⟨by simp; omega, by simp; omega⟩) (fun off2 rws2 hq0 hq1 hq2 => ?_)
       simp only [go_sem, Ne.symm ha, Ne.symm ha4, hn8_a, hn10_a]
       have hn13_g1 : g13 ≠ g1 := fresh_g hg13 12 0 (by simp [go_sem, hn8_g1, hn10_g1])
       have hn13_g4 : g13 ≠ g4 := fresh_g hg13 7 0 (by simp [go_sem, Ne.symm hn4_g1, ha4, hn8_g4, hn10_g4])
       refine aops_last 1 hops13 ?_
       simp only [go_sem]
       refine hKR13 _ ?_
       refine hK14 _ ?_
       refine awp_plain 2 (by kernel_rfl) rfl (fun g14 hg14 => ?_)
       simp only [go_sem]
       try simp (disch := omega) only [wrapN]
       refine ⟨_, ?_, j + 1, g13, 50, off2, q + 1, rws2, es' ++ [(X.to, X)], hlj, rfl, hnext.symm, hn13_g1, hn13_g4, by simpa using hq1, ?_, by simp; omega, ?_, le_of ?_⟩
       ·omega
       ·simp at hq1 ⊢
        omega
       ·rw [hq2, hdr, allN_add, List.drop_append_of_le_length (by rw [allN_len]; omega), List.map_append]
        rfl
       simp only [go_sem, hn4_g1, Ne.symm hn4_g1, hn8_g1, hn8_g4, hn10_g1, hn10_g4, hn13_g1, Ne.symm hn13_g1, hn13_g4, Ne.symm hn13_g4]
       all_goals first | done | exact rfl | exact ⟨rfl, rfl⟩ | trivial | omega
     ·have hne := ndEq hX
      have hno : scan1 x es' X = es' := by
       unfold scan1
       rw [if_neg (fun h => hX h.1)]
      rw [hno] at hnext
      refine awp_plain 4 (by kernel_rfl) rfl (fun g9 hg9 => ?_)
      simp only [go_sem, hne, decide_false, Bool.not_false, Ne.symm hn4_g1, ha4, Ne.symm hn8_g1, Ne.symm hn8_a, hn8_g4, Ne.symm hn8_g4]
      refine hK17 _ ?_
      refine awp_t rfl ?_
      refine awp_exit ?_
      refine hK14 _ ?_
      refine awp_plain 2 (by kernel_rfl) rfl (fun g14 hg14 => ?_)
      simp only [go_sem]
      try simp (disch := omega) only [wrapN]
      refine ⟨_, ?_, j + 1, a, i, off, q, rows, es', hlj, rfl, hnext.symm, ha, ha4, hoq, hrl, hqk, hdr, le_of ?_⟩
      ·omega
      simp only [go_sem, hn4_g1, Ne.symm hn4_g1, ha, Ne.symm ha, ha4, Ne.symm ha4, hn8_g1, hn8_a, hn8_g4]
      all_goals first | done | exact rfl | exact ⟨rfl, rfl⟩ | trivial | omega
    ·have : j = l.length := by omega
     subst this
     rw [List.take_length] at hes
     change es' = scanE l x es at hes
     refine awp_plain 1 (by kernel_rfl) rfl (fun g7 hg7 => ?_)
     simp only [go_sem, hlj, decide_false]
     refine hK12 _ ?_
     refine awp_seq_k (fun K22 hK22 => ?_)
     refine awp_f rfl ?_
     refine awp_exit ?_
     have hB2 : Bfs l n es' := hes ▸ scanE_bfs _ es (fun e he => he) hB hxm
     cases m with
     | zero =>
      have := hB.len
      rw [allN_len] at hkl
      omega
     | succ f =>
      refine ⟨_, ?_, f, k + 1, es', a, i, off, q, rows, hB2, by omega, by rw [hes]; exact hnk f rfl, rfl, ha, hoq, hrl, by omega, hdr, le_of ?_⟩
      ·omega
      simp only [go_sem, hn4_g1, ha, Ne.symm ha, Ne.symm ha4]
      all_goals first | done | exact rfl | exact ⟨rfl, rfl⟩ | trivial | omega
end Go.Proofs.T
namespace Go.Proofs.T
open Go Go.Ab Go.RowKit
def stepN (l : List Nd) (i : List Nat) (x : D) (j : List Nat) : Prop := ∃ n e, l[n]? = some e ∧ n ∉ i ∧ x = encNd e ∧ j = i ++ [n]
def finN (l : List Nd) (i : List Nat) : Prop := ∀ n, n < l.length → n ∈ i
def okNn (l : List Nd) (i : List Nat) : Prop := i.Nodup ∧ ∀ n ∈ i, n < l.length
theorem okNn_step {l : List Nd} {i j : List Nat} {x : D} (h : okNn l i) (hs : stepN l i x j) : okNn l j := by
 obtain ⟨n, e, h1, h2, -, rfl⟩ := hs
 refine ⟨?_, fun m hm => ?_⟩
 ·rw [List.nodup_append]
  refine ⟨h.1, by simp, fun a ha b hb => ?_⟩
  rw [List.mem_singleton.1 hb]
  intro e
  exact h2 (e ▸ ha)
 ·rcases List.mem_append.1 hm with hm | hm
  ·exact h.2 m hm
  ·rw [List.mem_singleton.1 hm]
   exact (List.getElem?_eq_some_iff.1 h1).1
theorem okNn_lt {l : List Nd} {i : List Nat} (h : okNn l i) {n : Nat} (hn : n < l.length) (hni : n ∉ i) : i.length < l.length := by
 have := nodup_le l.length (i ++ [n]) (by
  rw [List.nodup_append]
  refine ⟨h.1, by simp, fun a ha b hb => ?_⟩
  rw [List.mem_singleton.1 hb]
  intro e
  exact hni (e ▸ ha)) fun m hm => by
  rcases List.mem_append.1 hm with hm | hm
  ·exact h.2 m hm
  ·rw [List.mem_singleton.1 hm]
   exact hn
 rw [List.length_append, List.length_singleton] at this
 omega
theorem keysM_get {es : Ms} {i : Nat} {p : Nd × Ed} (h : es[i]? = some p) : (keysM es)[i]? = some p.1 := by
 unfold keysM
 rw [List.getElem?_map, h]
 rfl
theorem encM_get (es : Ms) (n : Nat) : (encM es)[n]? = (es[n]?).map fun p => (ndV p.1, encEd p.2) := by
 unfold encM
 rw [List.getElem?_map]
set_option maxRecDepth 100000 in
theorem keysM1_calls (es : Ms) (n : Nm) (I : List Nat → Sto → Prop) (hY : ∀ i x j, stepN (keysM es) i x j → YC E n x (I i) (I j)) :
  IC E 54 [.yld n, .eptr [.fmap ksM (encM es)]] (I []) (fun τ => ∃ i, (finN (keysM es) i ∧ okNn (keysM es) i) ∧ I i τ) (.tup []) := by
 refine icalls_of_awp (fn := Tryz.f54) (N := 14) Tryz.call54 Tryz.func54 rfl rfl (by simp) (fun g d τ hτ => ?_)
 simp only [go_sem]
 refine awp_seq_k (fun K1 hK1 => ?_)
 refine awp_ops (by kernel_rfl) rfl (fun g0 hg0 ops0 KR0 hops0 hKR0 => ?_)
 refine aops_eval 1 hops0 ?_
 simp only [go_sem]
 refine aops_range hops0 rfl rfl rfl rfl rfl ?_
 simp only [go_sem]
 refine aops_last 0 hops0 ?_
 simp only [go_sem]
 refine hKR0 _ ?_
 refine hK1 _ ?_
 refine awp_block ?_
 have hf5 : get τ ⟨g0, 5, 0⟩ = none := by simpa [go_sem] using hg0 5 0
 refine awp_loop (fun m st => ∃ pre τ', okNn (keysM es) pre ∧ m = (keysM es).length - pre.length ∧ I pre τ' ∧ get τ' ⟨g0, 5, 0⟩ = none ∧ LeT { env := [(0, .yld n), (5, .ptr ⟨g0, 5, 0⟩ 0)], σ := (⟨g0, 5, 0⟩, .iter ksM (encM es) pre) :: τ' } st) (keysM es).length ?_ ?_
 ·refine ⟨[], τ, ⟨List.nodup_nil, fun m hm => nomatch hm⟩, rfl, hτ, hf5, ⟨leE_spec ?_, fun _ _ h => h⟩⟩
  simp only [go_sem]
  all_goals first | done | exact rfl | exact ⟨rfl, rfl⟩ | trivial
 ·rintro m st ⟨pre, τ', hk, rfl, hI, hf, hle⟩
  refine awp_keepT hle ?_
  clear hle
  refine awp_seq_k (fun K2 hK2 => ?_)
  refine awp_ops (by kernel_rfl) rfl (fun g1 hg1 ops1 KR1 hops1 hKR1 => ?_)
  refine aops_eval 0 hops1 ?_
  simp only [go_sem]
  refine aops_next hops1 rfl rfl rfl rfl (by simp only [go_sem]; rfl) (fun v pre2 hout => ?_)
  simp only [go_sem]
  rcases hout with ⟨rfl, rfl, hall⟩ | ⟨i, e', hie, hni, rfl, rfl⟩
  ·refine aops_last 1 hops1 ?_
   simp only [go_sem]
   refine hKR1 _ ?_
   refine hK2 _ ?_
   refine awp_seq_k (fun K3 hK3 => ?_)
   refine awp_f rfl ?_
   refine awp_exit ?_
   refine ends_tail (own := [_]) rfl rfl (by simp [go_sem, hf]) (⟨pre2, ⟨fun n hn => hall n (by rw [encM_len]; simpa [keysM] using hn), hk⟩, hI⟩) ?_
   simp only [go_sem]
   exact Co.refl _
  ·rw [encM_get] at hie
   obtain ⟨e, he, rfl⟩ := Option.map_eq_some_iff.1 hie
   have hil : i < (keysM es).length := by have := (List.getElem?_eq_some_iff.1 he).1; simpa [keysM] using this
   have hek := keysM_get he
   have hlt := okNn_lt hk hil hni
   refine aops_last 1 hops1 ?_
   simp only [go_sem]
   refine hKR1 _ ?_
   refine hK2 _ ?_
   refine awp_seq_k (fun K4 hK4 => ?_)
   refine awp_t rfl ?_
   refine awp_skip ?_
   refine hK4 _ ?_
   refine awp_block ?_
   refine awp_seq_k (fun K5 hK5 => ?_)
   refine awp_ops (by kernel_rfl) rfl (fun g2 hg2 ops2 KR2 hops2 hKR2 => ?_)
   refine aops_eval 0 hops2 ?_
   simp only [go_sem]
   refine aops_entry2 (pre := pre) (i := i) hops2 rfl rfl rfl rfl (by simp only [go_sem]; rfl) (by rw [encM_get, he]; rfl) ?_
   refine aops_last 3 hops2 ?_
   simp only [go_sem, ndV, List.map_cons, List.map_nil]
   refine hKR2 _ ?_
   refine hK5 _ ?_
   refine awp_seq_k (fun K6 hK6 => ?_)
   have h23 : get τ' ⟨g2, 3, 0⟩ = none := by simpa [go_sem] using hg2 3 0
   refine awp_ops (by kernel_rfl) rfl (fun g3 hg3 ops3 KR3 hops3 hKR3 => ?_)
   refine aops_eval 2 hops3 ?_
   simp only [go_sem]
   refine aops_yield (own := [_, _]) (τ := τ') hops3 rfl rfl rfl rfl rfl rfl (hY pre (encNd e.1) (pre ++ [i]) ⟨i, e.1, hek, hni, rfl, rfl⟩) (Co.refl _) rfl (fun p hp => ?_) hI (fun τ2 hI2 hX => ?_)
   ·rcases List.mem_cons.1 hp with rfl | hp
    ·exact h23
    ·rw [List.mem_singleton.1 hp]; exact hf
   refine aops_last 1 hops3 ?_
   simp only [go_sem]
   refine hKR3 _ ?_
   refine hK6 _ ?_
   refine awp_f rfl ?_
   refine awp_skip ?_
   have h5 := hX _ (List.mem_cons_of_mem _ List.mem_cons_self)
   refine ⟨(keysM es).length - (pre ++ [i]).length, ?_, pre ++ [i], τ2, okNn_step hk ⟨i, e.1, hek, hni, rfl, rfl⟩, rfl, hI2, h5, ⟨leE_spec ?_, ?_⟩⟩
   ·rw [List.length_append, List.length_singleton]
    omega
   ·simp only [go_sem]
    all_goals first | done | exact rfl | exact ⟨rfl, rfl⟩ | trivial
   ·have h3 := hX _ List.mem_cons_self
    intro m o hm
    simp only [Ab.get] at hm ⊢
    by_cases a : (⟨g0, 5, 0⟩ : Nm) = m
    ·have b : ¬ (⟨g2, 3, 0⟩ : Nm) = m := by rw [← a]; simp
     rw [if_pos a] at hm
     rw [if_neg b, if_pos a]
     exact hm
    ·rw [if_neg a] at hm
     by_cases b : (⟨g2, 3, 0⟩ : Nm) = m
     ·rw [← b, h3] at hm
      cases hm
     ·rw [if_neg b, if_neg a]
      exact hm
theorem keysMX_calls (es : Ms) (g d : Nat) : ACalls E 29 [.fmap ksM (encM es)] [] g d (.func (.func 54) [] [.eptr [.fmap ksM (encM es)]]) [] := by
 refine acalls_of_awp (fn := Tryz.f29) (N := 4) Tryz.call29 Tryz.func29 rfl rfl (by simp) ?_
 simp only [go_sem]
 refine awp_seq_k (fun K1 hK1 => ?_)
 refine awp_plain 2 (by kernel_rfl) rfl (fun g0 hg0 => ?_)
 simp only [go_sem]
 refine hK1 _ ?_
 refine awp_seq_k (fun K2 hK2 => ?_)
 refine awp_still ⟨g0, 1, 0⟩ ?_
 simp only [go_sem]
 refine awp_plain 2 (by kernel_rfl) rfl (fun g1 hg1 => ?_)
 simp only [go_sem]
 refine hK2 _ ?_
 refine awp_ret ?_
 refine ends_ev rfl ?_
 simp only [go_sem]
 exact Co.refl _
abbrev kfM (es : Ms) : D := .func (.func 54) [] [.eptr [.fmap ksM (encM es)]]
def ndsK (l : List Nd) (i : List Nat) : List Nd := i.map fun n => l.getD n default
theorem ndsK_len (l : List Nd) (i : List Nat) : (ndsK l i).length = i.length := by simp [ndsK]
theorem ndsK_perm {l : List Nd} {i : List Nat} (h : okNn l i) (hf : finN l i) : (ndsK l i).Perm l := by
 have hp : i.Perm (List.range l.length) := by
  refine (List.perm_ext_iff_of_nodup h.1 List.nodup_range).2 fun n => ?_
  rw [List.mem_range]
  exact ⟨h.2 n, hf n⟩
 have h1 := hp.map (fun n => l.getD n default)
 have h2 : (List.range l.length).map (fun n => l.getD n default) = l := by
  refine List.ext_getElem (by simp) fun k h1 h2 => ?_
  simp [h2]
 rw [h2] at h1
 exact h1
def SomeN (l : List Nd) (g d : Nat) (r : D) (τ : Sto) : Prop := ∃ L : List Nd, L.Perm l ∧ r = .own ⟨g, d, 1⟩ L.length ∧ τ = [(⟨g, d, 1⟩, .arr 37 3 (L.map encNd))]
abbrev apN (q a b : Nat) (L : List Nd) : Sto := [(⟨q, 2, 0⟩, .box 35 [.own ⟨a, b, 0⟩ L.length]), (⟨a, b, 0⟩, .arr 37 3 (L.map encNd))]
set_option maxRecDepth 100000 in
theorem appendSeqN_calls (es : Ms) (hl : (keysM es).length ≤ 1000000) (g d : Nat) : EC E 85 [.val (.slice none 0 0), kfM es] [] g d (SomeN (keysM es) g d) := by
 refine ecalls_of_awp (fn := Tryz.f85) (N := 13) Tryz.call85 Tryz.func85 rfl rfl (by simp) ?_
 simp only [go_sem]
 refine awp_seq_k (fun K1 hK1 => ?_)
 refine awp_plain 2 (by kernel_rfl) rfl (fun g0 hg0 => ?_)
 simp only [go_sem]
 refine hK1 _ ?_
 refine awp_seq_k (fun K2 hK2 => ?_)
 refine awp_seq_k (fun K3 hK3 => ?_)
 refine awp_nil_box ⟨g0, 2, 0⟩ 0 37 3 ?_
 simp only [go_sem]
 intro gn hgn
 refine awp_plain 1 (by kernel_rfl) rfl (fun g1 hg1 => ?_)
 simp only [go_sem]
 refine hK3 _ ?_
 refine awp_block ?_
 have hgn_g0 : gn ≠ g0 := fresh_g hgn 2 0 (by simp [go_sem])
 refine awp_rangeX_k rfl rfl (by decide) [] (stepN (keysM es)) (fun i => finN (keysM es) i ∧ okNn (keysM es) i) (fun i σ => okNn (keysM es) i ∧ ∃ a b, a ≠ g0 ∧ ∀ n o, Ab.get (apN g0 a b (ndsK (keysM es) i)) n = some o → Ab.get σ n = some o) ⟨⟨List.nodup_nil, fun m hm => nomatch hm⟩, gn, 0, hgn_g0, subT_of ?_⟩ (fun n I hY => keysM1_calls es n I hY) (fun i x j hs σ hJ KA hKA => ?_) (fun i σ hfin hJ => ?_)
 ·simp only [go_sem, List.length_nil, show ndsK (keysM es) [] = [] from rfl, List.map_nil, hgn_g0, Ne.symm hgn_g0]
  all_goals first | done | exact rfl | exact ⟨rfl, rfl⟩ | trivial
 ·obtain ⟨hk, a, b, ha, hσ⟩ := hJ
  have hkj := okNn_step hk hs
  obtain ⟨n, e, he, hni, rfl, rfl⟩ := hs
  have hlt := okNn_lt hk (List.getElem?_eq_some_iff.1 he).1 hni
  have hlen := ndsK_len (keysM es) i
  have hnext : ndsK (keysM es) (i ++ [n]) = ndsK (keysM es) i ++ [e] := by
   unfold ndsK
   rw [List.map_append, List.map_singleton, List.getD_eq_getElem?_getD, he]
   rfl
  rw [hnext] at hKA
  generalize ndsK (keysM es) i = L at *
  refine awp_keepT (st' := { env := [(7, encNd e), (2, .ptr ⟨g0, 2, 0⟩ 0)], σ := apN g0 a b L }) ⟨leE_spec ?_, hσ⟩ ?_
  ·simp only [go_sem]
   try trivial
  refine awp_plain 2 (by kernel_rfl) rfl (fun g2 hg2 => ?_)
  simp only [go_sem, apN]
  refine hKA _ (fun KB hKB => ?_)
  refine awp_block ?_
  have h20 : g2 ≠ g0 := fresh_g hg2 2 0 (by simp [go_sem])
  have h2a : g2 ≠ a := fresh_g hg2 b 0 (by simp [go_sem, Ne.symm ha])
  refine awp_ops (by kernel_rfl) rfl (fun g3 hg3 ops3 KR3 hops3 hKR3 => ?_)
  refine aops_eval 3 hops3 ?_
  simp only [go_sem, ha, h20, Ne.symm h20, Ne.symm h2a]
  refine aops_app hops3 rfl rfl rfl rfl rfl es35 sz37 by37 ze37 rfl (by decide) ?_
  simp only [go_sem, Ne.symm ha, h2a]
  first | refine ⟨⟨by omega, by omega⟩, ?_⟩ | skip
  have hn3_g0 : g3 ≠ g0 := fresh_g hg3 2 0 (by simp [go_sem, h20])
  refine aops_last 1 hops3 ?_
  simp only [go_sem, h20, hn3_g0]
  refine hKR3 _ ?_
  refine hKB _ ?_
  refine ⟨hkj, g3, 11, hn3_g0, subT_of ?_⟩
  simp only [go_sem, List.map_append, List.length_append, h20, hn3_g0, Ne.symm hn3_g0]
  all_goals first | done | exact rfl | exact ⟨rfl, rfl⟩ | trivial
 ·obtain ⟨hk, a, b, ha, hσ⟩ := hJ
  have hperm := ndsK_perm hk hfin.1
  generalize ndsK (keysM es) i = L at *
  refine hK2 _ ?_
  refine awp_seq_k (fun K4 hK4 => ?_)
  refine awp_keepT (st' := { env := [(2, .ptr ⟨g0, 2, 0⟩ 0)], σ := apN g0 a b L }) ⟨leE_spec ?_, hσ⟩ ?_
  ·simp only [go_sem]
   try trivial
  refine awp_plain 2 (by kernel_rfl) rfl (fun g4 hg4 => ?_)
  simp only [go_sem, apN, ha]
  refine hK4 _ ?_
  refine awp_ret ?_
  refine ⟨.own ⟨g, d, 1⟩ L.length, [(⟨g, d, 1⟩, .arr 37 3 (L.map encNd))], ⟨L, hperm, rfl, rfl⟩, ?_⟩
  refine ends_own [⟨a, b, 0⟩] rfl ?_
  simp only [go_sem, newSto, Ne.symm ha]
  exact Co.refl _
set_option maxRecDepth 100000 in
theorem collectN_calls (es : Ms) (hl : (keysM es).length ≤ 1000000) (g d : Nat) : EC E 52 [kfM es] [] g d (SomeN (keysM es) g d) := by
 refine ecalls_of_awp (fn := Tryz.f52) (N := 5) Tryz.call52 Tryz.func52 rfl rfl (by simp) ?_
 simp only [go_sem]
 refine awp_seq_k (fun K1 hK1 => ?_)
 refine awp_plain 1 (by kernel_rfl) rfl (fun g0 hg0 => ?_)
 simp only [go_sem]
 refine hK1 _ ?_
 refine awp_seq_k (fun K2 hK2 => ?_)
 refine awp_ops (by kernel_rfl) rfl (fun g1 hg1 ops1 KR1 hops1 hKR1 => ?_)
 refine aops_eval 1 hops1 ?_
 simp only [go_sem]
 refine aops_ecall hops1 rfl rfl rfl (appendSeqN_calls es hl _ _) (CoL.refl _) (fun r τ' hS hfr => ?_)
 obtain ⟨L, hperm, rfl, rfl⟩ := hS
 refine aops_last 1 hops1 ?_
 simp only [go_sem]
 refine hKR1 _ ?_
 refine hK2 _ ?_
 refine awp_ret ?_
 refine ⟨.own ⟨g, d, 1⟩ L.length, [(⟨g, d, 1⟩, .arr 37 3 (L.map encNd))], ⟨L, hperm, rfl, rfl⟩, ?_⟩
 refine ends_own [⟨g1, 4, 1⟩] rfl ?_
 simp only [go_sem, newSto]
 exact Co.refl _
theorem srtN_perm_eq {l L : List Nd} (h : L.Perm l) : srt ltNd L = srt ltNd l :=
 nd_uniq ((srt_perm ltNd L).trans h) (srt_ord goodNd.swo L)
set_option maxRecDepth 100000 in
theorem sortedFuncN_calls (es : Ms) (hl : (keysM es).length ≤ 1000000) (g d : Nat) : ACalls E 28 [kfM es, .func (.func 32) [] []] [] g d (slNd (srt ltNd (keysM es))) [] := by
 refine acalls_of_awp (fn := Tryz.f28) (N := 12) Tryz.call28 Tryz.func28 rfl rfl (by simp) ?_
 simp only [go_sem]
 refine awp_seq_k (fun K1 hK1 => ?_)
 refine awp_plain 1 (by kernel_rfl) rfl (fun g0 hg0 => ?_)
 simp only [go_sem]
 refine hK1 _ ?_
 refine awp_seq_k (fun K2 hK2 => ?_)
 refine awp_ops (by kernel_rfl) rfl (fun g1 hg1 ops1 KR1 hops1 hKR1 => ?_)
 refine aops_eval 1 hops1 ?_
 simp only [go_sem]
 refine aops_ecall hops1 rfl rfl rfl (collectN_calls es hl _ _) (CoL.refl _) (fun r τ' hS hfr => ?_)
 obtain ⟨L, hperm, rfl, rfl⟩ := hS
 have hL : L.length ≤ 1000000 := by rw [hperm.length_eq]; exact hl
 have hsl := srt_len ltNd L
 have hse := srtN_perm_eq hperm
 refine aops_last 1 hops1 ?_
 simp only [go_sem]
 refine hKR1 _ ?_
 refine hK2 _ ?_
 refine awp_seq_k (fun K3 hK3 => ?_)
 refine awp_ops (by kernel_rfl) rfl (fun g2 hg2 ops2 KR2 hops2 hKR2 => ?_)
 refine aops_eval 2 hops2 ?_
 simp only [go_sem]
 refine aops_call hops2 rfl rfl rfl (sortNd_calls L hL ⟨g1, 7, 1⟩ _ _) (CoL.refl _) (by simp [go_sem]) ?_
 refine aops_last 0 hops2 ?_
 simp only [go_sem]
 refine hKR2 _ ?_
 refine hK3 _ ?_
 refine awp_seq_k (fun K4 hK4 => ?_)
 refine awp_plain 2 (by kernel_rfl) rfl (fun g3 hg3 => ?_)
 simp only [go_sem]
 refine hK4 _ ?_
 refine awp_ret ?_
 refine ret_frz ⟨g1, 7, 1⟩ ?_
 simp only [go_sem, hse]
 refine ends_ev rfl ?_
 simp only [go_sem]
 exact Co.refl _
end Go.Proofs.T
namespace Go.Ab
open Go Go.RowKit
section
variable {E : Ctx} {ops : List Oper} {M : List Nat} {ds : List (Option Tmp)} {g i : Nat} {σ0 : Sto} {K : St → Prop} {st : St}
theorem TOp.forget {o : Oper} {e : Operand → D} {κ κ' κ'' : Kp} {v : D} (h : TOp E g o e κ v κ') (hs : ∀ n x, κ'' n = some x → κ' n = some x) : TOp E g o e κ v κ'' := by
 intro w0 hA G w a hw hV ho hf K Q' hK
 exact h w0 hA G w a hw hV ho hf K Q' fun G' w' x h1 h2 h3 h4 => hK G' w' x h1 h2 (h3.sub hs) (h4.trans (.drop hs))
theorem qrunT_forget {o : Oper} {r : List Oper} {t : TypeId} {ao x : Operand} (hds : ops.map (·.dst) = ds) (hw : wantL ds st.env o.guard = some true) (hd : o.dst = none) (hop : o.op = .store t ao x) (n : Nm) (hng : n.g = g) (htk : turnOk M ds i [n] = true)
  (h : SomeP (get st.σ n) fun ob => SomeP (storeD E.P t (ev E st.env ao) (ev E st.env x) [(n, ob)]) fun _ => QRunT E ops M g σ0 (i + 1) K r { env := st.env, σ := del st.σ n }) : QRunT E ops M g σ0 i K (o :: r) st := by
 obtain ⟨ob, h1, h⟩ := h.elim
 obtain ⟨σ1, h2, h3⟩ := h.elim
 have htop := storeD_sound (E := E) (g := g) (e := ev E st.env) hop h2
 refine qrunT_cons (p := ⟨.val undef, [], [n]⟩) ⟨(fun q hq => nomatch hq), .inr (.inr ⟨by rw [← wantL_eq hds]; exact hw, [(n, ob)], rfl, TOp.forget htop (fun m y hm => nomatch hm), fun q hq => ?_, fun m hm => ?_, by rw [hds]; exact htk⟩)⟩ ?_
 ·simp only [List.mem_singleton] at hq
  subst hq
  exact h1
 ·simp only [List.mem_singleton] at hm
  subst hm
  exact hng
 ·rw [hd]
  exact h3
end
end Go.Ab
namespace Go.Proofs.T
open Go Go.Ab Go.RowKit
open Classical in
noncomputable def eqN (a b : Nd) : Bool := decide (a = b)
theorem eqN_iff {a b : Nd} : eqN a b = true ↔ a = b := by unfold eqN; simp
noncomputable def leadB (l : List Ed) (a b : Nd) : Bool := memB b (reachR l a)
theorem leadB_iff {l : List Ed} {a b : Nd} : leadB l a b = true ↔ Rch l a b := by unfold leadB; rw [memB_true, reachR_mem]
theorem lookM_lead (l : List Ed) (a b : Nd) : (lookM (bfsF l a) b).isSome = leadB l a b := by
 rw [Bool.eq_iff_iff, leadB_iff, ← bfsF_mem]
 have := lookM_none (bfsF l a) b
 cases h : lookM (bfsF l a) b with
 | none => simpa using this.1 h
 | some e =>
  refine ⟨fun _ => ?_, fun _ => rfl⟩
  refine Classical.byContradiction fun hn => ?_
  rw [this.2 hn] at h
  cases h
noncomputable def exB (l : List Ed) (e : Ed) : Bool := e.ins && (leadB l e.to e.frm || eqN e.to e.frm)
noncomputable def exL (l : List Ed) : List Ed := l.filter (exB l)
set_option maxHeartbeats 1000000 in
set_option maxRecDepth 100000 in
theorem expansive_calls (l : List Ed) (hl : l.length ≤ 1000000) (e : Ed) (g d : Nat) : ACalls E 42 [slEd l, encEd e] [] g d (dB (exB l e)) [] := by
 have hs := fun n g r => search_calls l hl n g r
 obtain ⟨f, t, b⟩ := e
 refine acalls_of_awp (fn := Tryz.f42) (N := 28) Tryz.call42 Tryz.func42 rfl rfl (by simp) ?_
 simp only [go_sem]
 refine awp_seq_k (fun K1 hK1 => ?_)
 refine awp_plain 2 (by kernel_rfl) rfl (fun g0 hg0 => ?_)
 simp only [go_sem]
 refine hK1 _ ?_
 refine awp_seq_k (fun K2 hK2 => ?_)
 refine awp_seq_k (fun K3 hK3 => ?_)
 cases b with
 | false =>
  refine awp_plain 3 (by kernel_rfl) rfl (fun g1 hg1 => ?_)
  simp only [go_sem, Bool.not_false]
  refine hK3 _ ?_
  refine awp_t rfl ?_
  refine awp_seq_k (fun K4 hK4 => ?_)
  refine awp_plain 1 (by kernel_rfl) rfl (fun g2 hg2 => ?_)
  simp only [go_sem]
  refine hK4 _ ?_
  refine awp_ret ?_
  refine ends_ev rfl ?_
  simp only [go_sem]
  exact Co.of_eq (by simp [exB])
 | true =>
  refine awp_plain 3 (by kernel_rfl) rfl (fun g1 hg1 => ?_)
  simp only [go_sem, Bool.not_true]
  refine hK3 _ ?_
  refine awp_f rfl ?_
  refine awp_skip ?_
  refine hK2 _ ?_
  refine awp_seq_k (fun K5 hK5 => ?_)
  have hb := lookM_lead l t f
  cases hk : lookM (bfsF l t) f with
  | some y =>
   rw [hk] at hb
   have hb : leadB l t f = true := hb.symm
   refine awp_anyT 12 [0, 0, 2, 7, 0, 16, 63, 127, 255, 255, 0, 1535, 4095] (by kernel_rfl) (by kernel_rfl) (by kernel_rfl) rfl (fun g3 hg3 ops3 KR3 hops3 hKR3 => ?_)
   refine qrunT_eval 3 hops3 rfl ?_
   simp only [go_sem]
   refine qrunT_pure hops3 rfl rfl rfl (hs t _ _) (CoL.refl _) rfl ?_
   refine qrunT_eval 7 hops3 rfl ?_
   simp only [go_sem, mget_m3, Nd.eta, hk, Option.map_some]
   refine qrunT_forget hops3 rfl rfl rfl ⟨g3, 5, 0⟩ rfl rfl ?_
   simp only [go_sem]
   refine qrunT_last 0 hops3 rfl ?_
   simp only [go_sem]
   refine aops_last 1 hops3 ?_
   simp only [go_sem]
   refine hKR3 _ ?_
   refine hK5 _ ?_
   refine awp_seq_k (fun K6 hK6 => ?_)
   refine awp_plain 9 (by kernel_rfl) rfl (fun g4 hg4 => ?_)
   simp only [go_sem]
   refine hK6 _ ?_
   refine awp_ret ?_
   refine ends_ev rfl ?_
   simp only [go_sem]
   exact Co.of_eq (by simp [exB, hb])
  | none =>
   rw [hk] at hb
   have hb : leadB l t f = false := hb.symm
   refine awp_anyT 12 [0, 0, 2, 7, 0, 16, 63, 127, 255, 255, 0, 1535, 4095] (by kernel_rfl) (by kernel_rfl) (by kernel_rfl) rfl (fun g3 hg3 ops3 KR3 hops3 hKR3 => ?_)
   refine qrunT_eval 3 hops3 rfl ?_
   simp only [go_sem]
   refine qrunT_pure hops3 rfl rfl rfl (hs t _ _) (CoL.refl _) rfl ?_
   refine qrunT_eval 7 hops3 rfl ?_
   simp only [go_sem, mget_m3, Nd.eta, hk, Option.map_none]
   refine qrunT_forget hops3 rfl rfl rfl ⟨g3, 5, 0⟩ rfl rfl ?_
   simp only [go_sem]
   refine qrunT_last 0 hops3 rfl ?_
   simp only [go_sem]
   refine aops_last 1 hops3 ?_
   simp only [go_sem]
   refine hKR3 _ ?_
   refine hK5 _ ?_
   refine awp_seq_k (fun K7 hK7 => ?_)
   by_cases hX : t = f
   ·subst hX
    have hq : eqN t t = true := eqN_iff.2 rfl
    refine awp_plain 9 (by kernel_rfl) rfl (fun g4 hg4 => ?_)
    simp only [go_sem, decide_true]
    refine hK7 _ ?_
    refine awp_ret ?_
    refine ends_ev rfl ?_
    simp only [go_sem]
    exact Co.of_eq (by simp [exB, hq])
   ·have hq : eqN t f = false := Bool.eq_false_iff.2 fun h => hX (eqN_iff.1 h)
    have hne := ndEq hX
    refine awp_plain 9 (by kernel_rfl) rfl (fun g4 hg4 => ?_)
    simp only [go_sem, hne, decide_false]
    refine hK7 _ ?_
    refine awp_ret ?_
    refine ends_ev rfl ?_
    simp only [go_sem]
    exact Co.of_eq (by simp [exB, hq, hb])
theorem refLeads_calls (l : List Ed) (hl : l.length ≤ 1000000) (a b : Nd) (g d : Nat) : ACalls E 13 [slEd l, encNd a, encNd b] [] g d (dB (leadB l a b)) [] := by
 have hr := reachR_len l a
 refine acalls_of_awp (fn := Tryz.f13) (N := 12) Tryz.call13 Tryz.func13 rfl rfl (by simp) ?_
 simp only [go_sem]
 refine awp_seq_k (fun K1 hK1 => ?_)
 refine awp_plain 3 (by kernel_rfl) rfl (fun g0 hg0 => ?_)
 simp only [go_sem]
 refine hK1 _ ?_
 refine awp_seq_k (fun K2 hK2 => ?_)
 refine awp_any 5 (by kernel_rfl) (by kernel_rfl) rfl (fun g1 hg1 ops1 KR1 hops1 hKR1 => ?_)
 refine qrun_eval 2 hops1 ?_
 simp only [go_sem]
 refine qrun_pure hops1 rfl rfl rfl (refReach_calls l hl a _ _) (CoL.refl _) rfl ?_
 refine qrun_eval 1 hops1 ?_
 simp only [go_sem]
 refine qrun_pure hops1 rfl rfl rfl (refHas_calls (reachR l a) (by omega) b _ _) (CoL.refl _) rfl ?_
 refine qrun_last 0 hops1 ?_
 simp only [go_sem]
 refine aops_last 1 hops1 ?_
 simp only [go_sem]
 refine hKR1 _ ?_
 refine hK2 _ ?_
 refine awp_ret ?_
 refine ends_ev rfl ?_
 simp only [go_sem]
 exact Co.refl _
theorem filterTake (f : Ed → Bool) {l : List Ed} {k : Nat} (h : k < l.length) : (l.take (k + 1)).filter f = (l.take k).filter f ++ (if f l[k] = true then [l[k]] else []) := by
 rw [List.take_add_one, List.getElem?_eq_getElem h, List.filter_append, Option.toList_some]
 congr 1
 simp only [List.filter_cons, List.filter_nil]
set_option maxHeartbeats 1000000 in
set_option maxRecDepth 100000 in
theorem refExpansive_calls (l : List Ed) (hl : l.length ≤ 1000000) (g d : Nat) : ACalls E 14 [slEd l] [] g d (slEd (exL l)) [] := by
 refine acalls_of_awp (fn := Tryz.f14) (N := 51) Tryz.call14 Tryz.func14 rfl rfl (by simp) ?_
 simp only [go_sem]
 refine awp_seq_k (fun K1 hK1 => ?_)
 refine awp_plain 1 (by kernel_rfl) rfl (fun g0 hg0 => ?_)
 simp only [go_sem]
 refine hK1 _ ?_
 refine awp_seq_k (fun K2 hK2 => ?_)
 refine awp_plain 1 (by kernel_rfl) rfl (fun g1 hg1 => ?_)
 simp only [go_sem]
 refine hK2 _ ?_
 refine awp_seq_k (fun K3 hK3 => ?_)
 refine awp_seq_k (fun K4 hK4 => ?_)
 refine awp_plain 1 (by kernel_rfl) rfl (fun g2 hg2 => ?_)
 simp only [go_sem]
 refine hK4 _ ?_
 refine awp_block ?_
 refine awp_nil 3 50 7 rfl fun gn hgn => ?_
 refine awp_loop (fun m st => ∃ k a i, k ≤ l.length ∧ m = l.length - k ∧ Le { env := [(0, slEd l), (3, .own ⟨a, i, 0⟩ ((l.take k).filter (exB l)).length), (4, dN k)], σ := [(⟨a, i, 0⟩, .arr 50 7 (((l.take k).filter (exB l)).map encEd))] } st) l.length ?_ ?_
 ·refine ⟨0, gn, 0, Nat.zero_le _, rfl, le_of ?_⟩
  simp only [go_sem, List.take_zero, List.filter_nil, List.map_nil, List.length_nil]
  all_goals first | done | exact rfl | exact ⟨rfl, rfl⟩ | trivial | omega
 ·rintro m st ⟨k, a, i, hk, rfl, hle⟩
  refine awp_keep hle ?_
  clear hle
  refine awp_seq_k (fun K5 hK5 => ?_)
  refine awp_seq_k (fun K6 hK6 => ?_)
  by_cases hlt : k < l.length
  ·have hgm := getM (f := encEd) hlt
   have hft := filterTake (exB l) hlt
   have hle : ((l.take k).filter (exB l)).length ≤ 1000000 := Nat.le_trans (List.length_filter_le _ _) (by rw [List.length_take]; omega)
   have hLd := fun g r => refLeads_calls l hl (l[k].to) (l[k].frm) g r
   generalize l[k] = X at *
   generalize hS : (l.take k).filter (exB l) = S at *
   obtain ⟨f, t, b⟩ := X
   refine awp_plain 4 (by kernel_rfl) rfl (fun g3 hg3 => ?_)
   simp only [go_sem, hlt, decide_true]
   refine hK6 _ ?_
   refine awp_t rfl ?_
   refine awp_skip ?_
   refine hK5 _ ?_
   refine awp_seq_k (fun K7 hK7 => ?_)
   refine awp_block ?_
   refine awp_seq_k (fun K8 hK8 => ?_)
   cases b with
   | false =>
    have hno : exB l ⟨f, t, false⟩ = false := by simp [exB]
    refine awp_anyq (by kernel_rfl) rfl (fun g5 hg5 ops5 KR5 hops5 hKR5 => ?_)
    refine qrun_last 32 hops5 ?_
    simp only [go_sem, hgm]
    refine hKR5 _ ?_
    refine hK8 _ ?_
    refine awp_f rfl ?_
    refine awp_skip ?_
    refine hK7 _ ?_
    refine awp_plain 3 (by kernel_rfl) rfl (fun g4 hg4 => ?_)
    simp only [go_sem]
    try simp (disch := omega) only [wrapN]
    refine ⟨_, ?_, k + 1, a, i, hlt, rfl, le_of ?_⟩
    ·omega
    rw [hft, if_neg (by rw [hno]; exact Bool.false_ne_true), List.append_nil]
    simp only [go_sem]
    all_goals first | done | exact rfl | exact ⟨rfl, rfl⟩ | trivial | omega
   | true =>
    by_cases hX : t = f
    ·subst hX
     have hyes : exB l ⟨t, t, true⟩ = true := by simp [exB, eqN_iff.2]
     refine awp_anyq (by kernel_rfl) rfl (fun g5 hg5 ops5 KR5 hops5 hKR5 => ?_)
     refine qrun_last 32 hops5 ?_
     simp only [go_sem, hgm, decide_true]
     refine hKR5 _ ?_
     refine hK8 _ ?_
     refine awp_t rfl ?_
     refine awp_ops (by kernel_rfl) rfl (fun g6 hg6 ops6 KR6 hops6 hKR6 => ?_)
     refine aops_eval 6 hops6 ?_
     simp only [go_sem, hgm]
     refine aops_app hops6 rfl rfl rfl rfl rfl es40 sz50 by50 ze50 rfl (by decide) ?_
     simp only [go_sem]
     first | refine ⟨⟨by omega, by omega⟩, ?_⟩ | skip
     refine aops_last 1 hops6 ?_
     simp only [go_sem]
     refine hKR6 _ ?_
     refine hK7 _ ?_
     refine awp_plain 3 (by kernel_rfl) rfl (fun g4 hg4 => ?_)
     simp only [go_sem]
     try simp (disch := omega) only [wrapN]
     refine ⟨_, ?_, k + 1, g6, 49, hlt, rfl, le_of ?_⟩
     ·omega
     rw [hft, if_pos hyes]
     simp only [go_sem, List.length_append, List.map_append, List.length_singleton, List.map_cons, List.map_nil]
     all_goals first | done | exact rfl | exact ⟨rfl, rfl⟩ | trivial | omega
    ·have hq : eqN t f = false := Bool.eq_false_iff.2 fun h => hX (eqN_iff.1 h)
     have hne := ndEq hX
     cases hb : leadB l t f with
     | true =>
      have hyes : exB l ⟨f, t, true⟩ = true := by simp [exB, hb]
      refine awp_anyq (by kernel_rfl) rfl (fun g5 hg5 ops5 KR5 hops5 hKR5 => ?_)
      refine qrun_eval 29 hops5 ?_
      simp only [go_sem, hgm, hne, decide_false]
      refine qrun_pure hops5 rfl rfl rfl (hLd _ _) (CoL.refl _) rfl ?_
      refine qrun_last 2 hops5 ?_
      simp only [go_sem, hb]
      refine hKR5 _ ?_
      refine hK8 _ ?_
      refine awp_t rfl ?_
      refine awp_ops (by kernel_rfl) rfl (fun g6 hg6 ops6 KR6 hops6 hKR6 => ?_)
      refine aops_eval 6 hops6 ?_
      simp only [go_sem, hgm]
      refine aops_app hops6 rfl rfl rfl rfl rfl es40 sz50 by50 ze50 rfl (by decide) ?_
      simp only [go_sem]
      first | refine ⟨⟨by omega, by omega⟩, ?_⟩ | skip
      refine aops_last 1 hops6 ?_
      simp only [go_sem]
      refine hKR6 _ ?_
      refine hK7 _ ?_
      refine awp_plain 3 (by kernel_rfl) rfl (fun g4 hg4 => ?_)
      simp only [go_sem]
      try simp (disch := omega) only [wrapN]
      refine ⟨_, ?_, k + 1, g6, 49, hlt, rfl, le_of ?_⟩
      ·omega
      rw [hft, if_pos hyes]
      simp only [go_sem, List.length_append, List.map_append, List.length_singleton, List.map_cons, List.map_nil]
      all_goals first | done | exact rfl | exact ⟨rfl, rfl⟩ | trivial | omega
     | false =>
      have hno : exB l ⟨f, t, true⟩ = false := by simp [exB, hb, hq]
      refine awp_anyq (by kernel_rfl) rfl (fun g5 hg5 ops5 KR5 hops5 hKR5 => ?_)
      refine qrun_eval 29 hops5 ?_
      simp only [go_sem, hgm, hne, decide_false]
      refine qrun_pure hops5 rfl rfl rfl (hLd _ _) (CoL.refl _) rfl ?_
      refine qrun_last 2 hops5 ?_
      simp only [go_sem, hb]
      refine hKR5 _ ?_
      refine hK8 _ ?_
      refine awp_f rfl ?_
      refine awp_skip ?_
      refine hK7 _ ?_
      refine awp_plain 3 (by kernel_rfl) rfl (fun g4 hg4 => ?_)
      simp only [go_sem]
      try simp (disch := omega) only [wrapN]
      refine ⟨_, ?_, k + 1, a, i, hlt, rfl, le_of ?_⟩
      ·omega
      rw [hft, if_neg (by rw [hno]; exact Bool.false_ne_true), List.append_nil]
      simp only [go_sem]
      all_goals first | done | exact rfl | exact ⟨rfl, rfl⟩ | trivial | omega
  ·have : k = l.length := by omega
   subst this
   rw [List.take_length]
   refine awp_plain 4 (by kernel_rfl) rfl (fun g3 hg3 => ?_)
   simp only [go_sem, hlt, decide_false]
   refine hK6 _ ?_
   refine awp_f rfl ?_
   refine awp_exit ?_
   refine hK3 _ ?_
   refine awp_seq_k (fun K9 hK9 => ?_)
   refine awp_plain 2 (by kernel_rfl) rfl (fun g7 hg7 => ?_)
   simp only [go_sem]
   refine hK9 _ ?_
   refine awp_ret ?_
   refine ret_frz ⟨a, i, 0⟩ ?_
   simp only [go_sem]
   refine ends_ev rfl ?_
   simp only [go_sem]
   exact Co.of_eq (by rw [exL])
theorem exL_len (l : List Ed) : (exL l).length ≤ l.length := List.length_filter_le _ _
end Go.Proofs.T
