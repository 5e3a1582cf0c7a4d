/- A part of the proof, under no conditions of its own: ZAU. -/
import Derived.Test.YtjicgnbcelhoiaaGreatDoorZAT
namespace Go.Proofs.T
open Go Go.Ab Go.RowKit
theorem okRowsE : ∀ l : List Ed, okRows 7 (l.map encEd) := fun l => okRows_map 7 encEd l fun _ => ⟨rfl, rfl⟩
theorem cloneEd_calls (l : List Ed) (hl : l.length ≤ 1000000) (g d : Nat) : ACalls E 40 [slEd l] [] g d (.own ⟨g, d, 1⟩ l.length) [(⟨g, d, 1⟩, .arr 78 7 (l.map encEd))] := by
 cases l with
 | nil =>
  refine acalls_of_awp (fn := Tryz.f40) (N := 8) Tryz.call40 Tryz.func40 rfl rfl (by simp) ?_
  simp only [go_sem]
  refine awp_seq_k (fun K1 hK1 => ?_)
  refine awp_plain 1 (by kernel_rfl) rfl (fun g0 hg0 => ?_)
  simp only [go_sem]
  refine hK1 _ ?_
  refine awp_seq_k (fun K2 hK2 => ?_)
  refine awp_seq_k (fun K3 hK3 => ?_)
  refine awp_plain 2 (by kernel_rfl) rfl (fun g1 hg1 => ?_)
  simp only [go_sem]
  refine hK3 _ ?_
  refine awp_unk rfl ?_ ?_
  ·refine awp_seq_k (fun K4 hK4 => ?_)
   refine awp_plain 1 (by kernel_rfl) rfl (fun g2 hg2 => ?_)
   simp only [go_sem]
   refine hK4 _ ?_
   refine awp_ret ?_
   refine ret_nil 2 78 7 rfl fun gz hgz => ?_
   refine ends_own [⟨gz, 0, 0⟩] rfl ?_
   simp only [go_sem, newSto]
   exact Co.refl _
  ·refine awp_skip ?_
   refine hK2 _ ?_
   refine awp_seq_k (fun K5 hK5 => ?_)
   refine awp_ops (by kernel_rfl) rfl (fun g3 hg3 ops3 KR3 hops3 hKR3 => ?_)
   refine aops_eval 2 hops3 ?_
   simp only [go_sem]
   refine aops_app hops3 rfl rfl rfl rfl rfl es47 sz78 by78 ze78 rfl (by decide) ?_
   simp only [go_sem, List.length_nil]
   first | refine ⟨⟨by omega, by omega⟩, ?_⟩ | skip
   refine aops_last 1 hops3 ?_
   simp only [go_sem]
   refine hKR3 _ ?_
   refine hK5 _ ?_
   refine awp_ret ?_
   refine ends_own [⟨g3, 7, 0⟩] rfl ?_
   simp only [go_sem, newSto]
   exact Co.refl _
 | cons a l =>
  simp only [List.length_cons] at hl
  refine acalls_of_awp (fn := Tryz.f40) (N := 8) Tryz.call40 Tryz.func40 rfl rfl (by simp) ?_
  simp only [go_sem]
  refine awp_seq_k (fun K1 hK1 => ?_)
  refine awp_plain 1 (by kernel_rfl) rfl (fun g0 hg0 => ?_)
  simp only [go_sem]
  refine hK1 _ ?_
  refine awp_seq_k (fun K2 hK2 => ?_)
  refine awp_seq_k (fun K3 hK3 => ?_)
  refine awp_plain 2 (by kernel_rfl) rfl (fun g1 hg1 => ?_)
  simp only [go_sem]
  refine hK3 _ ?_
  refine awp_f rfl ?_
  refine awp_skip ?_
  refine hK2 _ ?_
  refine awp_seq_k (fun K4 hK4 => ?_)
  refine awp_ops (by kernel_rfl) rfl (fun g3 hg3 ops3 KR3 hops3 hKR3 => ?_)
  refine aops_eval 2 hops3 ?_
  simp only [go_sem]
  refine aops_app hops3 rfl rfl rfl rfl rfl es47 sz78 by78 ze78 rfl (by decide) ?_
  simp only [go_sem, List.length_map, okRowsE, List.length_cons, List.length_nil, Nat.zero_add, List.nil_append]
  first | refine ⟨⟨by omega, by omega⟩, ?_⟩ | skip
  refine aops_last 1 hops3 ?_
  simp only [go_sem, List.nil_append]
  refine hKR3 _ ?_
  refine hK4 _ ?_
  refine awp_ret ?_
  refine ends_own [⟨g3, 7, 0⟩] rfl ?_
  simp only [go_sem, newSto]
  exact Co.refl _
def idxI (f : Ed → Bool) (l : List Ed) : Int := match l.findIdx? f with | some i => (i : Int) | none => -1
theorem idxI_some {f : Ed → Bool} {l : List Ed} {k : Nat} (h : k < l.length) (hn : ∀ x ∈ l.take k, f x = false) (hf : f l[k] = true) : idxI f l = (k : Int) := by
 unfold idxI
 have : l.findIdx? f = some k := by
  rw [List.findIdx?_eq_some_iff_getElem]
  refine ⟨h, hf, fun j hj => ?_⟩
  have := hn l[j] (by
   rw [List.mem_take_iff_getElem]
   exact ⟨j, by omega, rfl⟩)
  simp [this]
 rw [this]
theorem idxI_none {f : Ed → Bool} {l : List Ed} (hn : ∀ x ∈ l, f x = false) : idxI f l = -1 := by
 unfold idxI
 have : l.findIdx? f = none := List.findIdx?_eq_none_iff.2 hn
 rw [this]
theorem idxI_any (f : Ed → Bool) (l : List Ed) : decide (0 ≤ idxI f l) = l.any f := by
 unfold idxI
 cases h : l.findIdx? f with
 | none =>
  have := List.findIdx?_eq_none_iff.1 h
  rw [List.any_eq_false.2 fun x hx => by rw [this x hx]; simp]
  rfl
 | some i =>
  obtain ⟨h1, h2, _⟩ := List.findIdx?_eq_some_iff_getElem.1 h
  rw [List.any_eq_true.2 ⟨l[i], List.getElem_mem h1, h2⟩]
  simp
variable {f : Ed → Bool} {fn : FuncId} {cap : List D}
set_option maxRecDepth 100000 in
theorem indexFunc_calls (hf : ∀ e g d, ACalls E fn (encEd e :: cap) [] g d (dB (f e)) []) (l : List Ed) (hl : l.length ≤ 1000000) (g d : Nat) : ACalls E 68 [slEd l, .func (.func fn) [] cap] [] g d (dI (idxI f l)) [] := by
 refine acalls_of_awp (fn := Tryz.f68) (N := 19) Tryz.call68 Tryz.func68 rfl rfl (by simp) ?_
 simp only [go_sem]
 refine awp_seq_k (fun K1 hK1 => ?_)
 refine awp_plain 1 (by kernel_rfl) rfl (fun g0 hg0 => ?_)
 simp only [go_sem]
 refine hK1 _ ?_
 refine awp_seq_k (fun K2 hK2 => ?_)
 refine awp_seq_k (fun K3 hK3 => ?_)
 refine awp_plain 3 (by kernel_rfl) rfl (fun g1 hg1 => ?_)
 simp only [go_sem]
 refine hK3 _ ?_
 refine awp_block ?_
 refine awp_loop (fun m st => ∃ k, k ≤ l.length ∧ m = l.length - k ∧ (∀ x ∈ l.take k, f x = false) ∧ Le { env := [(0, slEd l), (1, .func (.func fn) [] cap), (7, dN l.length), (8, dN k)], σ := [] } st) l.length ?_ ?_
 ·refine ⟨0, Nat.zero_le _, rfl, (fun x hx => nomatch hx), le_of ?_⟩
  simp only [go_sem]
  all_goals first | done | exact rfl | exact ⟨rfl, rfl⟩ | trivial | omega
 ·rintro m st ⟨k, hk, rfl, hno, hle⟩
  refine awp_keep hle ?_
  clear hle
  refine awp_seq_k (fun K4 hK4 => ?_)
  by_cases hlt : k < l.length
  ·have hgm := getM (f := encEd) hlt
   have hi1 := @idxI_some f l k hlt hno
   have hnx : f l[k] = false → ∀ x ∈ l.take (k + 1), f x = false := fun h x hx => by
    rw [List.take_add_one, List.getElem?_eq_getElem hlt] at hx
    rcases List.mem_append.1 hx with hx | hx
    ·exact hno x hx
    ·simp only [Option.toList_some, List.mem_singleton] at hx
     rw [hx, h]
   have hc := hf l[k]
   generalize l[k] = X at *
   refine awp_plain 1 (by kernel_rfl) rfl (fun g2 hg2 => ?_)
   simp only [go_sem, hlt, decide_true]
   refine hK4 _ ?_
   refine awp_seq_k (fun K5 hK5 => ?_)
   refine awp_t rfl ?_
   refine awp_skip ?_
   refine hK5 _ ?_
   refine awp_seq_k (fun K6 hK6 => ?_)
   refine awp_block ?_
   refine awp_seq_k (fun K7 hK7 => ?_)
   refine awp_plain 2 (by kernel_rfl) rfl (fun g3 hg3 => ?_)
   simp only [go_sem]
   refine hK7 _ ?_
   refine awp_seq_k (fun K8 hK8 => ?_)
   cases hX : f X with
   | true =>
    refine awp_ops (by kernel_rfl) rfl (fun g4 hg4 ops4 KR4 hops4 hKR4 => ?_)
    refine aops_eval 5 hops4 ?_
    simp only [go_sem, hgm]
    refine aops_pure hops4 rfl rfl rfl (hc _ _) (CoL.refl _) ?_
    refine aops_last 0 hops4 ?_
    simp only [go_sem, hX]
    refine hKR4 _ ?_
    refine hK8 _ ?_
    refine awp_t rfl ?_
    refine awp_seq_k (fun K9 hK9 => ?_)
    refine awp_plain 2 (by kernel_rfl) rfl (fun g5 hg5 => ?_)
    simp only [go_sem]
    refine hK9 _ ?_
    refine awp_ret ?_
    refine ends_ev rfl ?_
    simp only [go_sem]
    exact Co.of_eq (by rw [hi1 hX])
   | false =>
    refine awp_ops (by kernel_rfl) rfl (fun g4 hg4 ops4 KR4 hops4 hKR4 => ?_)
    refine aops_eval 5 hops4 ?_
    simp only [go_sem, hgm]
    refine aops_pure hops4 rfl rfl rfl (hc _ _) (CoL.refl _) ?_
    refine aops_last 0 hops4 ?_
    simp only [go_sem, hX]
    refine hKR4 _ ?_
    refine hK8 _ ?_
    refine awp_f rfl ?_
    refine awp_skip ?_
    refine hK6 _ ?_
    refine awp_plain 2 (by kernel_rfl) rfl (fun g6 hg6 => ?_)
    simp only [go_sem]
    try simp (disch := omega) only [wrapN]
    refine ⟨_, ?_, k + 1, hlt, rfl, hnx hX, le_of ?_⟩
    ·omega
    simp only [go_sem]
    all_goals first | done | exact rfl | exact ⟨rfl, rfl⟩ | trivial | omega
  ·have : k = l.length := by omega
   subst this
   rw [List.take_length] at hno
   refine awp_plain 1 (by kernel_rfl) rfl (fun g2 hg2 => ?_)
   simp only [go_sem, hlt, decide_false]
   refine hK4 _ ?_
   refine awp_seq_k (fun K10 hK10 => ?_)
   refine awp_f rfl ?_
   refine awp_exit ?_
   refine hK2 _ ?_
   refine awp_seq_k (fun K11 hK11 => ?_)
   refine awp_plain 1 (by kernel_rfl) rfl (fun g7 hg7 => ?_)
   simp only [go_sem]
   refine hK11 _ ?_
   refine awp_ret ?_
   refine ends_ev rfl ?_
   simp only [go_sem]
   exact Co.of_eq (by rw [idxI_none hno])
set_option maxRecDepth 100000 in
theorem indexFuncO_calls (hf : ∀ e g d, ACalls E fn (encEd e :: cap) [] g d (dB (f e)) []) (l : List Ed) (hl : l.length ≤ 1000000) (n : Nm) (g d : Nat) : ACalls E 68 [.own n l.length, .func (.func fn) [] cap] [(n, .arr 78 7 (l.map encEd))] g d (dI (idxI f l)) [(n, .arr 78 7 (l.map encEd))] := by
 refine acalls_of_awp (fn := Tryz.f68) (N := 19) Tryz.call68 Tryz.func68 rfl rfl (by simp) ?_
 simp only [go_sem]
 refine awp_seq_k (fun K1 hK1 => ?_)
 refine awp_plain 1 (by kernel_rfl) rfl (fun g0 hg0 => ?_)
 simp only [go_sem]
 refine hK1 _ ?_
 refine awp_seq_k (fun K2 hK2 => ?_)
 refine awp_seq_k (fun K3 hK3 => ?_)
 refine awp_plain 3 (by kernel_rfl) rfl (fun g1 hg1 => ?_)
 simp only [go_sem]
 refine hK3 _ ?_
 refine awp_block ?_
 refine awp_loop (fun m st => ∃ k, k ≤ l.length ∧ m = l.length - k ∧ (∀ x ∈ l.take k, f x = false) ∧ Le { env := [(0, .own n l.length), (1, .func (.func fn) [] cap), (7, dN l.length), (8, dN k)], σ := [(n, .arr 78 7 (l.map encEd))] } st) l.length ?_ ?_
 ·refine ⟨0, Nat.zero_le _, rfl, (fun x hx => nomatch hx), le_of ?_⟩
  simp only [go_sem]
  all_goals first | done | exact rfl | exact ⟨rfl, rfl⟩ | trivial | omega
 ·rintro m st ⟨k, hk, rfl, hno, hle⟩
  refine awp_keep hle ?_
  clear hle
  refine awp_seq_k (fun K4 hK4 => ?_)
  by_cases hlt : k < l.length
  ·have hgm := getM (f := encEd) hlt
   have hi1 := @idxI_some f l k hlt hno
   have hnx : f l[k] = false → ∀ x ∈ l.take (k + 1), f x = false := fun h x hx => by
    rw [List.take_add_one, List.getElem?_eq_getElem hlt] at hx
    rcases List.mem_append.1 hx with hx | hx
    ·exact hno x hx
    ·simp only [Option.toList_some, List.mem_singleton] at hx
     rw [hx, h]
   have hc := hf l[k]
   generalize l[k] = X at *
   refine awp_plain 1 (by kernel_rfl) rfl (fun g2 hg2 => ?_)
   simp only [go_sem, hlt, decide_true]
   refine hK4 _ ?_
   refine awp_seq_k (fun K5 hK5 => ?_)
   refine awp_t rfl ?_
   refine awp_skip ?_
   refine hK5 _ ?_
   refine awp_seq_k (fun K6 hK6 => ?_)
   refine awp_block ?_
   refine awp_seq_k (fun K7 hK7 => ?_)
   refine awp_plain 2 (by kernel_rfl) rfl (fun g3 hg3 => ?_)
   simp only [go_sem]
   refine hK7 _ ?_
   refine awp_seq_k (fun K8 hK8 => ?_)
   cases hX : f X with
   | true =>
    refine awp_ops (by kernel_rfl) rfl (fun g4 hg4 ops4 KR4 hops4 hKR4 => ?_)
    refine aops_eval 5 hops4 ?_
    simp only [go_sem, hlt, hgm]
    refine aops_pure hops4 rfl rfl rfl (hc _ _) (CoL.refl _) ?_
    refine aops_last 0 hops4 ?_
    simp only [go_sem, hX]
    refine hKR4 _ ?_
    refine hK8 _ ?_
    refine awp_t rfl ?_
    refine awp_seq_k (fun K9 hK9 => ?_)
    refine awp_plain 2 (by kernel_rfl) rfl (fun g5 hg5 => ?_)
    simp only [go_sem]
    refine hK9 _ ?_
    refine awp_ret ?_
    refine ends_keep rfl (by simp [go_sem]) ?_
    simp only [go_sem]
    exact Co.of_eq (by rw [hi1 hX])
   | false =>
    refine awp_ops (by kernel_rfl) rfl (fun g4 hg4 ops4 KR4 hops4 hKR4 => ?_)
    refine aops_eval 5 hops4 ?_
    simp only [go_sem, hlt, hgm]
    refine aops_pure hops4 rfl rfl rfl (hc _ _) (CoL.refl _) ?_
    refine aops_last 0 hops4 ?_
    simp only [go_sem, hX]
    refine hKR4 _ ?_
    refine hK8 _ ?_
    refine awp_f rfl ?_
    refine awp_skip ?_
    refine hK6 _ ?_
    refine awp_plain 2 (by kernel_rfl) rfl (fun g6 hg6 => ?_)
    simp only [go_sem]
    try simp (disch := omega) only [wrapN]
    refine ⟨_, ?_, k + 1, hlt, rfl, hnx hX, le_of ?_⟩
    ·omega
    simp only [go_sem]
    all_goals first | done | exact rfl | exact ⟨rfl, rfl⟩ | trivial | omega
  ·have : k = l.length := by omega
   subst this
   rw [List.take_length] at hno
   refine awp_plain 1 (by kernel_rfl) rfl (fun g2 hg2 => ?_)
   simp only [go_sem, hlt, decide_false]
   refine hK4 _ ?_
   refine awp_seq_k (fun K10 hK10 => ?_)
   refine awp_f rfl ?_
   refine awp_exit ?_
   refine hK2 _ ?_
   refine awp_seq_k (fun K11 hK11 => ?_)
   refine awp_plain 1 (by kernel_rfl) rfl (fun g7 hg7 => ?_)
   simp only [go_sem]
   refine hK11 _ ?_
   refine awp_ret ?_
   refine ends_keep rfl (by simp [go_sem]) ?_
   simp only [go_sem]
   exact Co.of_eq (by rw [idxI_none hno])
theorem containsFunc_calls (hf : ∀ e g d, ACalls E fn (encEd e :: cap) [] g d (dB (f e)) []) (l : List Ed) (hl : l.length ≤ 1000000) (g d : Nat) : ACalls E 45 [slEd l, .func (.func fn) [] cap] [] g d (dB (l.any f)) [] := by
 refine acalls_of_awp (fn := Tryz.f45) (N := 9) Tryz.call45 Tryz.func45 rfl rfl (by simp) ?_
 simp only [go_sem]
 refine awp_seq_k (fun K1 hK1 => ?_)
 refine awp_plain 1 (by kernel_rfl) rfl (fun g0 hg0 => ?_)
 simp only [go_sem]
 refine hK1 _ ?_
 refine awp_seq_k (fun K2 hK2 => ?_)
 refine awp_ops (by kernel_rfl) rfl (fun g1 hg1 ops1 KR1 hops1 hKR1 => ?_)
 refine aops_eval 2 hops1 ?_
 simp only [go_sem]
 refine aops_pure hops1 rfl rfl rfl (indexFunc_calls hf l hl _ _) (CoL.refl _) ?_
 refine aops_last 2 hops1 ?_
 simp only [go_sem]
 refine hKR1 _ ?_
 refine hK2 _ ?_
 refine awp_ret ?_
 refine ends_ev rfl ?_
 simp only [go_sem]
 exact Co.of_eq (by rw [idxI_any])
open Classical in
noncomputable def eqE (a b : Ed) : Bool := decide (a = b)
theorem eqE_iff {a b : Ed} : eqE a b = true ↔ a = b := by unfold eqE; simp
set_option maxRecDepth 100000 in
theorem indexEd_calls (l : List Ed) (hl : l.length ≤ 1000000) (e : Ed) (g d : Nat) : ACalls E 69 [slEd l, encEd e] [] g d (dI (idxI (eqE e) l)) [] := by
 refine acalls_of_awp (fn := Tryz.f69) (N := 19) Tryz.call69 Tryz.func69 rfl rfl (by simp) ?_
 simp only [go_sem]
 refine awp_seq_k (fun K1 hK1 => ?_)
 refine awp_plain 2 (by kernel_rfl) rfl (fun g0 hg0 => ?_)
 simp only [go_sem]
 refine hK1 _ ?_
 refine awp_seq_k (fun K2 hK2 => ?_)
 refine awp_seq_k (fun K3 hK3 => ?_)
 refine awp_plain 3 (by kernel_rfl) rfl (fun g1 hg1 => ?_)
 simp only [go_sem]
 refine hK3 _ ?_
 refine awp_block ?_
 refine awp_loop (fun m st => ∃ k, k ≤ l.length ∧ m = l.length - k ∧ (∀ x ∈ l.take k, eqE e x = false) ∧ Le { env := [(0, slEd l), (3, .ptr ⟨g0, 3, 0⟩ 0), (7, dN l.length), (8, dN k)], σ := [(⟨g0, 3, 0⟩, .box 78 (edC e))] } st) l.length ?_ ?_
 ·refine ⟨0, Nat.zero_le _, rfl, (fun x hx => nomatch hx), le_of ?_⟩
  simp only [go_sem]
  all_goals first | done | exact rfl | exact ⟨rfl, rfl⟩ | trivial | omega
 ·rintro m st ⟨k, hk, rfl, hno, hle⟩
  refine awp_keep hle ?_
  clear hle
  refine awp_seq_k (fun K4 hK4 => ?_)
  by_cases hlt : k < l.length
  ·have hgm := getM (f := encEd) hlt
   have hi1 := @idxI_some (eqE e) l k hlt hno
   have hnx : eqE e l[k] = false → ∀ x ∈ l.take (k + 1), eqE e x = false := fun h x hx => by
    rw [List.take_add_one, List.getElem?_eq_getElem hlt] at hx
    rcases List.mem_append.1 hx with hx | hx
    ·exact hno x hx
    ·simp only [Option.toList_some, List.mem_singleton] at hx
     rw [hx, h]
   generalize l[k] = X at *
   refine awp_plain 1 (by kernel_rfl) rfl (fun g2 hg2 => ?_)
   simp only [go_sem, hlt, decide_true]
   refine hK4 _ ?_
   refine awp_seq_k (fun K5 hK5 => ?_)
   refine awp_t rfl ?_
   refine awp_skip ?_
   refine hK5 _ ?_
   refine awp_seq_k (fun K6 hK6 => ?_)
   refine awp_block ?_
   refine awp_seq_k (fun K7 hK7 => ?_)
   refine awp_plain 2 (by kernel_rfl) rfl (fun g3 hg3 => ?_)
   simp only [go_sem]
   refine hK7 _ ?_
   refine awp_seq_k (fun K8 hK8 => ?_)
   by_cases hX : e = X
   ·have hq : eqE e X = true := eqE_iff.2 hX
    subst hX
    refine awp_anyq (by kernel_rfl) rfl (fun g4 hg4 ops4 KR4 hops4 hKR4 => ?_)
    refine qrun_last 6 hops4 ?_
    simp only [go_sem, hgm, decide_true]
    refine hKR4 _ ?_
    refine hK8 _ ?_
    refine awp_t rfl ?_
    refine awp_seq_k (fun K9 hK9 => ?_)
    refine awp_plain 2 (by kernel_rfl) rfl (fun g5 hg5 => ?_)
    simp only [go_sem]
    refine hK9 _ ?_
    refine awp_ret ?_
    refine ends_ev rfl ?_
    simp only [go_sem]
    exact Co.of_eq (by rw [hi1 hq])
   ·have hq : eqE e X = false := Bool.eq_false_iff.2 fun h => hX (eqE_iff.1 h)
    have hne := edEq hX
    refine awp_anyq (by kernel_rfl) rfl (fun g4 hg4 ops4 KR4 hops4 hKR4 => ?_)
    refine qrun_last 6 hops4 ?_
    simp only [go_sem, hgm, hne, decide_false]
    refine hKR4 _ ?_
    refine hK8 _ ?_
    refine awp_f rfl ?_
    refine awp_skip ?_
    refine hK6 _ ?_
    refine awp_plain 2 (by kernel_rfl) rfl (fun g6 hg6 => ?_)
    simp only [go_sem]
    try simp (disch := omega) only [wrapN]
    refine ⟨_, ?_, k + 1, hlt, rfl, hnx hq, le_of ?_⟩
    ·omega
    simp only [go_sem]
    all_goals first | done | exact rfl | exact ⟨rfl, rfl⟩ | trivial | omega
  ·have : k = l.length := by omega
   subst this
   rw [List.take_length] at hno
   refine awp_plain 1 (by kernel_rfl) rfl (fun g2 hg2 => ?_)
   simp only [go_sem, hlt, decide_false]
   refine hK4 _ ?_
   refine awp_seq_k (fun K10 hK10 => ?_)
   refine awp_f rfl ?_
   refine awp_exit ?_
   refine hK2 _ ?_
   refine awp_seq_k (fun K11 hK11 => ?_)
   refine awp_plain 1 (by kernel_rfl) rfl (fun g7 hg7 => ?_)
   simp only [go_sem]
   refine hK11 _ ?_
   refine awp_ret ?_
   refine ends_ev rfl ?_
   simp only [go_sem]
   exact Co.of_eq (by rw [idxI_none hno])
theorem contains_calls (l : List Ed) (hl : l.length ≤ 1000000) (e : Ed) (g d : Nat) : ACalls E 44 [slEd l, encEd e] [] g d (dB (l.any (eqE e))) [] := by
 refine acalls_of_awp (fn := Tryz.f44) (N := 9) Tryz.call44 Tryz.func44 rfl rfl (by simp) ?_
 simp only [go_sem]
 refine awp_seq_k (fun K1 hK1 => ?_)
 refine awp_plain 2 (by kernel_rfl) rfl (fun g0 hg0 => ?_)
 simp only [go_sem]
 refine hK1 _ ?_
 refine awp_seq_k (fun K2 hK2 => ?_)
 refine awp_ops (by kernel_rfl) rfl (fun g1 hg1 ops1 KR1 hops1 hKR1 => ?_)
 refine aops_eval 2 hops1 ?_
 simp only [go_sem]
 refine aops_pure hops1 rfl rfl rfl (indexEd_calls l hl e _ _) (CoL.refl _) ?_
 refine aops_last 2 hops1 ?_
 simp only [go_sem]
 refine hKR1 _ ?_
 refine hK2 _ ?_
 refine awp_ret ?_
 refine ends_ev rfl ?_
 simp only [go_sem]
 exact Co.of_eq (by rw [idxI_any])
end Go.Proofs.T
namespace Go.Proofs.T
open Go Go.Ab Go.RowKit
variable {f : Ed → Bool} {fn : FuncId} {cap : List D}
set_option maxHeartbeats 1000000 in
set_option maxRecDepth 100000 in
theorem deleteFunc_calls (hf : ∀ e g d, ACalls E fn (encEd e :: cap) [] g d (dB (f e)) []) (l : List Ed) (hl : l.length ≤ 1000000) (q c : Nat) (g d : Nat) :
  ACalls E 39 [.own ⟨q, c, 1⟩ l.length, .func (.func fn) [] cap] [(⟨q, c, 1⟩, .arr 78 7 (l.map encEd))] g d (slEd (l.filter fun x => !f x)) [] := by
 obtain ⟨n, hn⟩ : ∃ n : Nm, n = ⟨q, c, 1⟩ := ⟨_, rfl⟩
 rw [← hn]
 obtain ⟨nf, hnf⟩ : ∃ nf : Ed → Bool, nf = fun x => !f x := ⟨_, rfl⟩
 rw [← hnf]
 refine acalls_of_awp (fn := Tryz.f39) (N := 42) Tryz.call39 Tryz.func39 rfl rfl (by simp) ?_
 simp only [go_sem]
 refine awp_seq_k (fun K1 hK1 => ?_)
 refine awp_plain 1 (by kernel_rfl) rfl (fun g0 hg0 => ?_)
 simp only [go_sem]
 refine hK1 _ ?_
 refine awp_seq_k (fun K2 hK2 => ?_)
 refine awp_ops (by kernel_rfl) rfl (fun g1 hg1 ops1 KR1 hops1 hKR1 => ?_)
 refine aops_eval 2 hops1 ?_
 simp only [go_sem]
 refine aops_call hops1 rfl rfl rfl (indexFuncO_calls hf l hl n _ _) (CoL.refl _) (by simp [go_sem]) ?_
 refine aops_last 1 hops1 ?_
 simp only [go_sem]
 refine hKR1 _ ?_
 refine hK2 _ ?_
 refine awp_seq_k (fun K3 hK3 => ?_)
 refine awp_seq_k (fun K4 hK4 => ?_)
 cases hi : l.findIdx? f with
 | none =>
  have hid : idxI f l = -1 := by unfold idxI; rw [hi]
  have hall := List.findIdx?_eq_none_iff.1 hi
  have hres : l.filter nf = l := by
   rw [List.filter_eq_self]
   intro x hx
   rw [hnf]
   simp [hall x hx]
  refine awp_plain 2 (by kernel_rfl) rfl (fun g2 hg2 => ?_)
  simp only [go_sem, hid, decide_true]
  refine hK4 _ ?_
  refine awp_t rfl ?_
  refine awp_seq_k (fun K5 hK5 => ?_)
  refine awp_plain 2 (by kernel_rfl) rfl (fun g3 hg3 => ?_)
  simp only [go_sem]
  refine hK5 _ ?_
  refine awp_ret ?_
  refine ret_frz n ?_
  simp only [go_sem]
  refine ends_ev rfl ?_
  simp only [go_sem]
  exact Co.of_eq (by rw [hres])
 | some i0 =>
  have hid : idxI f l = (i0 : Int) := by unfold idxI; rw [hi]
  obtain ⟨hi1, hi2, hi3⟩ := List.findIdx?_eq_some_iff_getElem.1 hi
  have hpre : ∀ x ∈ l.take i0, nf x = true := fun x hx => by
   obtain ⟨j, hj, rfl⟩ := List.mem_take_iff_getElem.1 hx
   have := hi3 j (by omega)
   rw [hnf]
   simpa using this
  have hf0 : (l.take (i0 + 1)).filter nf = l.take i0 := by
   rw [filterTake _ hi1, List.filter_eq_self.2 hpre, if_neg (by rw [hnf]; simp [hi2]), List.append_nil]
  refine awp_plain 2 (by kernel_rfl) rfl (fun g2 hg2 => ?_)
  simp only [go_sem, hid, show ((i0 : Int) = -1) = False from eq_false (by omega), decide_false]
  refine hK4 _ ?_
  refine awp_f rfl ?_
  refine awp_skip ?_
  refine hK3 _ ?_
  refine awp_seq_k (fun K6 hK6 => ?_)
  refine awp_seq_k (fun K7 hK7 => ?_)
  refine awp_plain 3 (by kernel_rfl) rfl (fun g4 hg4 => ?_)
  simp only [go_sem]
  try simp (disch := omega) only [wrapN]
  refine hK7 _ ?_
  refine awp_block ?_
  refine awp_loop (fun m st => ∃ (i j : Nat) (R : List Ed), j ≤ l.length ∧ i < j ∧ m = l.length - j ∧ R.length = l.length ∧ ((l.take j).filter nf).length = i ∧ R.take i = (l.take j).filter nf ∧ (∀ q, j ≤ q → R[q]? = l[q]?) ∧
    Le { env := [(0, .own n l.length), (1, .func (.func fn) [] cap), (5, dN i), (6, dN j)], σ := [(n, .arr 78 7 (R.map encEd))] } st) (l.length - (i0 + 1)) ?_ ?_
  ·refine ⟨i0, i0 + 1, l, hi1, Nat.lt_succ_self _, rfl, rfl, ?_, hf0.symm, (fun q _ => rfl), le_of ?_⟩
   ·rw [hf0, List.length_take]
    omega
   simp only [go_sem]
   all_goals first | done | exact rfl | exact ⟨rfl, rfl⟩ | trivial | omega
  ·rintro m st ⟨i, j, R, hj, hij, rfl, hRl, hil, hRi, hq, hle⟩
   refine awp_keep hle ?_
   clear hle
   refine awp_seq_k (fun K8 hK8 => ?_)
   refine awp_seq_k (fun K9 hK9 => ?_)
   by_cases hlj : j < l.length
   ·have hRj : R[j]? = some l[j] := by rw [hq j (Nat.le_refl _)]; exact List.getElem?_eq_getElem hlj
    have hgm : (R.map encEd)[j]? = some (encEd l[j]) := by rw [List.getElem?_map, hRj]; rfl
    have hft := filterTake nf hlj
    have hc := hf l[j]
    have hjR : j < R.length := by omega
    have hiR : i < R.length := by omega
    have hgi := getM (f := encEd) (l := R) (k := i) hiR
    generalize l[j] = X at *
    refine awp_plain 4 (by kernel_rfl) rfl (fun g5 hg5 => ?_)
    simp only [go_sem, hlj, decide_true]
    refine hK9 _ ?_
    refine awp_t rfl ?_
    refine awp_skip ?_
    refine hK8 _ ?_
    refine awp_seq_k (fun K10 hK10 => ?_)
    refine awp_block ?_
    refine awp_seq_k (fun K11 hK11 => ?_)
    refine awp_plain 6 (by kernel_rfl) rfl (fun g7 hg7 => ?_)
    simp only [go_sem, hjR, hgm]
    refine hK11 _ ?_
    refine awp_seq_k (fun K12 hK12 => ?_)
    have hng : n ≠ ⟨g7, 7, 0⟩ := by rw [hn]; simp
    cases hX : f X with
    | true =>
     refine awp_ops (by kernel_rfl) rfl (fun g8 hg8 ops8 KR8 hops8 hKR8 => ?_)
     refine aops_eval 2 hops8 ?_
     simp only [go_sem, hng]
     refine aops_pure hops8 rfl rfl rfl (hc _ _) (CoL.refl _) ?_
     refine aops_last 1 hops8 ?_
     simp only [go_sem, hX, Bool.not_true]
     refine hKR8 _ ?_
     refine hK12 _ ?_
     refine awp_f rfl ?_
     refine awp_skip ?_
     refine hK10 _ ?_
     refine awp_plain 3 (by kernel_rfl) rfl (fun g6 hg6 => ?_)
     simp only [go_sem]
     try simp (disch := omega) only [wrapN]
     refine ⟨_, ?_, i, j + 1, R, hlj, by omega, rfl, hRl, ?_, ?_, fun q hq2 => hq q (by omega), le_of ?_⟩
     ·omega
     ·rw [hft, if_neg (by rw [hnf]; simp [hX]), List.append_nil, hil]
     ·rw [hft, if_neg (by rw [hnf]; simp [hX]), List.append_nil, hRi]
     simp only [go_sem, Ne.symm hng]
     all_goals first | done | exact rfl | exact ⟨rfl, rfl⟩ | trivial | omega
    | false =>
     refine awp_ops (by kernel_rfl) rfl (fun g8 hg8 ops8 KR8 hops8 hKR8 => ?_)
     refine aops_eval 2 hops8 ?_
     simp only [go_sem, hng]
     refine aops_pure hops8 rfl rfl rfl (hc _ _) (CoL.refl _) ?_
     refine aops_last 1 hops8 ?_
     simp only [go_sem, hX, Bool.not_false]
     refine hKR8 _ ?_
     refine hK12 _ ?_
     refine awp_t rfl ?_
     refine awp_seq_k (fun K13 hK13 => ?_)
     refine awp_plain 5 (by kernel_rfl) rfl (fun g9 hg9 => ?_)
     simp only [go_sem, hiR, hgi, hng, Ne.symm hng]
     refine hK13 _ ?_
     refine awp_plain 3 (by kernel_rfl) rfl (fun g10 hg10 => ?_)
     simp only [go_sem]
     try simp (disch := omega) only [wrapN]
     refine hK10 _ ?_
     refine awp_plain 3 (by kernel_rfl) rfl (fun g6 hg6 => ?_)
     simp only [go_sem]
     try simp (disch := omega) only [wrapN]
     refine ⟨_, ?_, i + 1, j + 1, R.set i X, hlj, by omega, rfl, by rw [List.length_set]; exact hRl, ?_, ?_, fun q hq2 => ?_, le_of ?_⟩
     ·omega
     ·rw [hft, if_pos (by rw [hnf]; simp [hX]), List.length_append, hil]
      rfl
     ·rw [hft, if_pos (by rw [hnf]; simp [hX]), List.take_add_one, List.getElem?_set_self hiR, List.take_set_of_le (Nat.le_refl _), hRi]
      rfl
     ·rw [List.getElem?_set_ne (by omega)]
      exact hq q (by omega)
     simp only [go_sem, List.map_set, Ne.symm hng]
     all_goals first | done | exact rfl | exact ⟨rfl, rfl⟩ | trivial | omega
   ·have : j = l.length := by omega
    subst this
    rw [List.take_length] at hil hRi
    have hkR : i ≤ R.length := by omega
    have c4 : (0 < R.length) = True := eq_true (by omega)
    have c5 : (i ≤ R.length) = True := eq_true hkR
    refine awp_plain 4 (by kernel_rfl) rfl (fun g5 hg5 => ?_)
    simp only [go_sem, hlj, decide_false]
    refine hK9 _ ?_
    refine awp_f rfl ?_
    refine awp_exit ?_
    refine hK6 _ ?_
    refine awp_seq_k (fun K14 hK14 => ?_)
    refine awp_ops (by kernel_rfl) rfl (fun g11 hg11 ops11 KR11 hops11 hKR11 => ?_)
    refine aops_eval 3 hops11 ?_
    simp only [go_sem, c4, c5, subLen, Nat.le_refl]
    refine aops_clear hops11 rfl rfl rfl rfl es47 ze78 rfl (by decide) ?_
    simp only [go_sem]
    first | refine ⟨by omega, ?_⟩ | skip
    generalize hZ : List.take i (List.map encEd R) ++ List.replicate (R.length - i) (D.agg [D.val (Value.bool false), D.val (Value.string ByteArray.empty), D.val (Value.int IntKind.i64 0), D.val (Value.bool false), D.val (Value.string ByteArray.empty), D.val (Value.int IntKind.i64 0), D.val (Value.bool false)]) ++ List.drop (i + (R.length - i)) (List.map encEd R) = Z
    have hZl : Z.length = R.length := by rw [← hZ]; simp; omega
    have hZt : Z.take i = (l.filter nf).map encEd := by
     rw [← hZ, List.append_assoc, List.take_append_of_le_length (by simp; omega), List.take_take, Nat.min_self, ← List.map_take, hRi]
    have hZr : lenRows 7 Z := fun r hr => by
     rw [← hZ] at hr
     rcases List.mem_append.1 hr with hr | hr
     ·rcases List.mem_append.1 hr with hr | hr
      ·exact lenRowsEd R r (List.mem_of_mem_take hr)
      ·rw [(List.mem_replicate.1 hr).2]; rfl
     ·exact lenRowsEd R r (List.mem_of_mem_drop hr)
    have c6 : (0 < Z.length) = True := eq_true (by omega)
    have c7 : (i ≤ Z.length) = True := eq_true (by omega)
    have c8 : ((i : Int) - 0).toNat = i := by omega
    have c9 : (0 + i ≤ Z.length) = True := eq_true (by omega)
    refine aops_last 0 hops11 ?_
    simp only [go_sem]
    refine hKR11 _ ?_
    refine hK14 _ ?_
    refine awp_seq_k (fun K15 hK15 => ?_)
    refine awp_plain 4 (by kernel_rfl) rfl (fun g12 hg12 => ?_)
    simp only [go_sem, c6, c7, c8, Int.natCast_nonneg, Int.le_refl]
    refine hK15 _ ?_
    refine awp_ret ?_
    refine ret_frz n ?_
    simp only [go_sem, c7, hZr, hZt]
    refine ends_ev rfl ?_
    simp only [go_sem]
    exact Co.refl _
end Go.Proofs.T
namespace Go.Proofs.T
open Go Go.Ab Go.RowKit
noncomputable abbrev edP (p : Prg) : List Ed := setE (prE p)
theorem edP_len {p : Prg} (h : (prE p).length ≤ 1000000) : (edP p).length ≤ 1000000 := Nat.le_trans (setE_len _) h
theorem exDel_calls (l : List Ed) (hl : l.length ≤ 1000000) (e : Ed) (g d : Nat) : ACalls E 41 [encEd e, .eptr [slEd l]] [] g d (dB (!exB l e)) [] := by
 refine acalls_of_awp (fn := Tryz.f41) (N := 8) Tryz.call41 Tryz.func41 rfl rfl (by simp) ?_
 simp only [go_sem]
 refine awp_seq_k (fun K1 hK1 => ?_)
 refine awp_plain 2 (by kernel_rfl) rfl (fun g0 hg0 => ?_)
 simp only [go_sem]
 refine hK1 _ ?_
 refine awp_seq_k (fun K2 hK2 => ?_)
 refine awp_ops (by kernel_rfl) rfl (fun g1 hg1 ops1 KR1 hops1 hKR1 => ?_)
 refine aops_eval 2 hops1 ?_
 simp only [go_sem]
 refine aops_pure hops1 rfl rfl rfl (expansive_calls l hl e _ _) (CoL.refl _) ?_
 refine aops_last 2 hops1 ?_
 simp only [go_sem]
 refine hKR1 _ ?_
 refine hK2 _ ?_
 refine awp_ret ?_
 refine ends_ev rfl ?_
 simp only [go_sem]
 exact Co.refl _
set_option maxRecDepth 100000 in
theorem nExp_calls (p : Prg) (hp : smPr p) (hE : (prE p).length ≤ 1000000) (g d : Nat) : ACalls E 21 [encPr p] [] g d (slEd (exL (edP p))) [] := by
 have he : ∀ g d, ACalls E 31 [encPr p] [] g d (slEd (edP p)) [] := fun g d => edges_calls p hp hE g d
 have hl := edP_len hE
 have hres : exL (edP p) = (edP p).filter fun x => !(fun e => !exB (edP p) e) x := by
  unfold exL
  congr 1
  funext x
  simp
 rw [hres]
 generalize edP p = L at *
 refine acalls_of_awp (fn := Tryz.f21) (N := 10) Tryz.call21 Tryz.func21 rfl rfl (by simp) ?_
 simp only [go_sem]
 refine awp_seq_k (fun K1 hK1 => ?_)
 refine awp_plain 2 (by kernel_rfl) rfl (fun g0 hg0 => ?_)
 simp only [go_sem]
 refine hK1 _ ?_
 refine awp_seq_k (fun K2 hK2 => ?_)
 refine awp_ops (by kernel_rfl) rfl (fun g1 hg1 ops1 KR1 hops1 hKR1 => ?_)
 refine aops_eval 1 hops1 ?_
 simp only [go_sem]
 refine aops_pure hops1 rfl rfl rfl (he _ _) (CoL.refl _) ?_
 refine aops_last 2 hops1 ?_
 simp only [go_sem]
 refine hKR1 _ ?_
 refine hK2 _ ?_
 refine awp_seq_k (fun K3 hK3 => ?_)
 refine awp_still ⟨g1, 3, 0⟩ ?_
 simp only [go_sem]
 refine awp_ops (by kernel_rfl) rfl (fun g2 hg2 ops2 KR2 hops2 hKR2 => ?_)
 refine aops_eval 1 hops2 ?_
 simp only [go_sem]
 refine aops_pure hops2 rfl rfl rfl (cloneEd_calls L hl _ _) (CoL.refl _) ?_
 refine aops_eval 1 hops2 ?_
 simp only [go_sem]
 refine aops_call hops2 rfl rfl rfl (deleteFunc_calls (f := fun e => !exB L e) (fn := 41) (cap := [.eptr [slEd L]]) (fun e g d => exDel_calls L hl e g d) L hl g2 7 _ _) (CoL.refl _) (by simp [go_sem]) ?_
 refine aops_last 1 hops2 ?_
 simp only [go_sem]
 refine hKR2 _ ?_
 refine hK3 _ ?_
 refine awp_ret ?_
 refine ends_ev rfl ?_
 simp only [go_sem]
 exact Co.refl _
theorem nIs_calls (p : Prg) (hp : smPr p) (hE : (prE p).length ≤ 1000000) (g d : Nat) : ACalls E 18 [encPr p] [] g d (dB (decide ((exL (edP p)).length = 0))) [] := by
 have he := fun g d => nExp_calls p hp hE g d
 generalize exL (edP p) = L at *
 refine acalls_of_awp (fn := Tryz.f18) (N := 7) Tryz.call18 Tryz.func18 rfl rfl (by simp) ?_
 simp only [go_sem]
 refine awp_seq_k (fun K1 hK1 => ?_)
 refine awp_plain 2 (by kernel_rfl) rfl (fun g0 hg0 => ?_)
 simp only [go_sem]
 refine hK1 _ ?_
 refine awp_seq_k (fun K2 hK2 => ?_)
 refine awp_ops (by kernel_rfl) rfl (fun g1 hg1 ops1 KR1 hops1 hKR1 => ?_)
 refine aops_eval 1 hops1 ?_
 simp only [go_sem]
 refine aops_pure hops1 rfl rfl rfl (he _ _) (CoL.refl _) ?_
 refine aops_last 3 hops1 ?_
 simp only [go_sem]
 refine hKR1 _ ?_
 refine hK2 _ ?_
 refine awp_ret ?_
 refine ends_ev rfl ?_
 simp only [go_sem]
 exact Co.of_eq (by simp [dB])
noncomputable def badAt (bad : List Ed) : List Dec → Option Int
 | [] => none
 | d :: r => if (stE d).any (fun e => bad.any (eqE e)) = true then some d.pos else badAt bad r
theorem badAt_none {bad : List Ed} : ∀ {l : List Dec}, badAt bad l = none → ∀ d ∈ l, (stE d).any (fun e => bad.any (eqE e)) = false
 | [], _, d, hd => nomatch hd
 | x :: r, h, d, hd => by
  unfold badAt at h
  split at h
  ·cases h
  ·rename_i hx
   rcases List.mem_cons.1 hd with rfl | hd
   ·simpa using hx
   ·exact badAt_none h d hd
theorem badAt_drop (bad : List Ed) (l : List Dec) {k : Nat} (h : k < l.length) : badAt bad (l.drop k) = if (stE l[k]).any (fun e => bad.any (eqE e)) = true then some l[k].pos else badAt bad (l.drop (k + 1)) := by
 rw [List.drop_eq_getElem_cons h]
 rfl
def errA (o : Option Int) : D := match o with | some a => .iface 97 (.agg [dI 5, dI a]) | none => .val .nilIface
theorem checkIs_calls (bad : List Ed) (hl : bad.length ≤ 1000000) (e : Ed) (g d : Nat) : ACalls E 43 [encEd e, .eptr [slEd bad]] [] g d (dB (bad.any (eqE e))) [] := by
 refine acalls_of_awp (fn := Tryz.f43) (N := 7) Tryz.call43 Tryz.func43 rfl rfl (by simp) ?_
 simp only [go_sem]
 refine awp_seq_k (fun K1 hK1 => ?_)
 refine awp_plain 2 (by kernel_rfl) rfl (fun g0 hg0 => ?_)
 simp only [go_sem]
 refine hK1 _ ?_
 refine awp_seq_k (fun K2 hK2 => ?_)
 refine awp_ops (by kernel_rfl) rfl (fun g1 hg1 ops1 KR1 hops1 hKR1 => ?_)
 refine aops_eval 2 hops1 ?_
 simp only [go_sem]
 refine aops_pure hops1 rfl rfl rfl (contains_calls bad hl e _ _) (CoL.refl _) ?_
 refine aops_last 1 hops1 ?_
 simp only [go_sem]
 refine hKR1 _ ?_
 refine hK2 _ ?_
 refine awp_ret ?_
 refine ends_ev rfl ?_
 simp only [go_sem]
 exact Co.refl _
theorem newF_calls (c a : Int) (g d : Nat) : ACalls E 47 [dI c, dI a] [] g d (.iface 97 (.agg [dI c, dI a])) [] := by
 refine acalls_of_awp (fn := Tryz.f47) (N := 9) Tryz.call47 Tryz.func47 rfl rfl (by simp) ?_
 simp only [go_sem]
 refine awp_seq_k (fun K1 hK1 => ?_)
 refine awp_plain 1 (by kernel_rfl) rfl (fun g0 hg0 => ?_)
 simp only [go_sem]
 refine hK1 _ ?_
 refine awp_seq_k (fun K2 hK2 => ?_)
 refine awp_plain 5 (by kernel_rfl) rfl (fun g1 hg1 => ?_)
 simp only [go_sem]
 refine hK2 _ ?_
 refine awp_ret ?_
 refine ends_ev rfl ?_
 simp only [go_sem]
 exact Co.refl _
set_option maxHeartbeats 1000000 in
set_option maxRecDepth 100000 in
theorem nCheck_calls (p : Prg) (hp : smPr p) (hE : (prE p).length ≤ 1000000) (g d : Nat) : ACalls E 22 [encPr p] [] g d (errA (if (exL (edP p)).length = 0 then none else badAt (exL (edP p)) p.decls)) [] := by
 have he := fun g d => nExp_calls p hp hE g d
 have hl := Nat.le_trans (exL_len (edP p)) (edP_len hE)
 have hdc := fun k : Nat => flowDecl_calls p hp (k : Int) hE
 have k2 := hp.1.2
 have k1 := hp.1.1
 generalize exL (edP p) = B at *
 refine acalls_of_awp (fn := Tryz.f22) (N := 30) Tryz.call22 Tryz.func22 rfl rfl (by simp) ?_
 simp only [go_sem]
 refine awp_seq_k (fun K1 hK1 => ?_)
 refine awp_plain 2 (by kernel_rfl) rfl (fun g0 hg0 => ?_)
 simp only [go_sem]
 refine hK1 _ ?_
 refine awp_seq_k (fun K2 hK2 => ?_)
 refine awp_ops (by kernel_rfl) rfl (fun g1 hg1 ops1 KR1 hops1 hKR1 => ?_)
 refine aops_eval 1 hops1 ?_
 simp only [go_sem]
 refine aops_pure hops1 rfl rfl rfl (he _ _) (CoL.refl _) ?_
 refine aops_last 2 hops1 ?_
 simp only [go_sem]
 refine hKR1 _ ?_
 refine hK2 _ ?_
 refine awp_seq_k (fun K3 hK3 => ?_)
 refine awp_seq_k (fun K4 hK4 => ?_)
 by_cases h0 : B.length = 0
 ·have h0' : (B.length : Int) = 0 := by omega
  refine awp_plain 3 (by kernel_rfl) rfl (fun g2 hg2 => ?_)
  simp only [go_sem, h0', decide_true]
  refine hK4 _ ?_
  refine awp_t rfl ?_
  refine awp_seq_k (fun K5 hK5 => ?_)
  refine awp_plain 1 (by kernel_rfl) rfl (fun g3 hg3 => ?_)
  simp only [go_sem]
  refine hK5 _ ?_
  refine awp_ret ?_
  refine ends_ev rfl ?_
  simp only [go_sem]
  exact Co.of_eq (by rw [if_pos h0]; rfl)
 ·have h0' : ¬ (B.length : Int) = 0 := by omega
  refine awp_plain 3 (by kernel_rfl) rfl (fun g2 hg2 => ?_)
  simp only [go_sem, h0', decide_false]
  refine hK4 _ ?_
  refine awp_f rfl ?_
  refine awp_skip ?_
  refine hK3 _ ?_
  refine awp_seq_k (fun K6 hK6 => ?_)
  refine awp_still ⟨g1, 3, 0⟩ ?_
  simp only [go_sem]
  refine awp_plain 2 (by kernel_rfl) rfl (fun g4 hg4 => ?_)
  simp only [go_sem]
  refine hK6 _ ?_
  refine awp_seq_k (fun K7 hK7 => ?_)
  refine awp_seq_k (fun K8 hK8 => ?_)
  refine awp_plain 4 (by kernel_rfl) rfl (fun g5 hg5 => ?_)
  simp only [go_sem]
  refine hK8 _ ?_
  refine awp_block ?_
  refine awp_loop (fun m st => ∃ k, k ≤ p.decls.length ∧ m = p.decls.length - k ∧ badAt B (p.decls.drop k) = badAt B p.decls ∧ Le { env := [(1, .ptr ⟨g0, 1, 0⟩ 0), (4, .func (.func 43) [] [.eptr [slEd B]]), (14, slDe p.decls), (15, dN p.decls.length), (16, dN k)], σ := [(⟨g0, 1, 0⟩, .box 30 (prC p))] } st) p.decls.length ?_ ?_
  ·refine ⟨0, Nat.zero_le _, rfl, rfl, le_of ?_⟩
   simp only [go_sem]
   all_goals first | done | exact rfl | exact ⟨rfl, rfl⟩ | trivial | omega
  ·rintro m st ⟨k, hk, rfl, hb, hle⟩
   refine awp_keep hle ?_
   clear hle
   refine awp_seq_k (fun K9 hK9 => ?_)
   by_cases hlt : k < p.decls.length
   ·have hgm := getM (f := encDe) hlt
    have hbd := badAt_drop B p.decls hlt
    rw [hb] at hbd
    have c1 := hdc k
    rw [dif_pos ⟨by omega, by omega⟩] at c1
    simp only [Int.toNat_natCast] at c1
    change ∀ g r, ACalls E _ _ _ g r (slEd (stE p.decls[k])) _ at c1
    have hsl : (stE p.decls[k]).length ≤ 1000000 := by
     have h1 := setE_len (deE p.decls[k])
     have h2 := deE_le (p := p) (List.getElem_mem hlt)
     change (setE (deE p.decls[k])).length ≤ _
     omega
    generalize p.decls[k] = X at *
    refine awp_plain 1 (by kernel_rfl) rfl (fun g6 hg6 => ?_)
    simp only [go_sem, hlt, decide_true]
    refine hK9 _ ?_
    refine awp_seq_k (fun K10 hK10 => ?_)
    refine awp_t rfl ?_
    refine awp_skip ?_
    refine hK10 _ ?_
    refine awp_seq_k (fun K11 hK11 => ?_)
    refine awp_block ?_
    refine awp_seq_k (fun K12 hK12 => ?_)
    refine awp_plain 6 (by kernel_rfl) rfl (fun g7 hg7 => ?_)
    simp only [go_sem, hgm]
    refine hK12 _ ?_
    refine awp_seq_k (fun K13 hK13 => ?_)
    have hn7_g0 : g7 ≠ g0 := fresh_g hg7 1 0 (by simp [go_sem])
    refine awp_ops (by kernel_rfl) rfl (fun g8 hg8 ops8 KR8 hops8 hKR8 => ?_)
    refine aops_eval 2 hops8 ?_
    simp only [go_sem, hn7_g0]
    refine aops_pure hops8 rfl rfl rfl (c1 _ _) (CoL.refl _) ?_
    refine aops_eval 1 hops8 ?_
    simp only [go_sem]
    refine aops_pure hops8 rfl rfl rfl (containsFunc_calls (f := fun e => B.any (eqE e)) (fn := 43) (cap := [.eptr [slEd B]]) (fun e g d => checkIs_calls B hl e g d) (stE X) hsl _ _) (CoL.refl _) ?_
    refine aops_last 0 hops8 ?_
    simp only [go_sem]
    refine hKR8 _ ?_
    refine hK13 _ ?_
    cases hX : (stE X).any (fun e => B.any (eqE e)) with
    | true =>
     rw [if_pos hX] at hbd
     refine awp_t rfl ?_
     refine awp_seq_k (fun K14 hK14 => ?_)
     refine awp_ops (by kernel_rfl) rfl (fun g9 hg9 ops9 KR9 hops9 hKR9 => ?_)
     refine aops_eval 2 hops9 ?_
     simp only [go_sem, Ne.symm hn7_g0]
     refine aops_pure hops9 rfl rfl rfl (newF_calls 5 X.pos _ _) (CoL.refl _) ?_
     refine aops_last 1 hops9 ?_
     simp only [go_sem]
     refine hKR9 _ ?_
     refine hK14 _ ?_
     refine awp_ret ?_
     refine ends_ev rfl ?_
     simp only [go_sem]
     exact Co.of_eq (by rw [if_neg h0, hbd]; rfl)
    | false =>
     rw [if_neg (by rw [hX]; exact Bool.false_ne_true)] at hbd
     refine awp_f rfl ?_
     refine awp_skip ?_
     refine hK11 _ ?_
     refine awp_plain 2 (by kernel_rfl) rfl (fun g10 hg10 => ?_)
     simp only [go_sem]
     try simp (disch := omega) only [wrapN]
     refine ⟨_, ?_, k + 1, hlt, rfl, hbd.symm, le_of ?_⟩
     ·omega
     simp only [go_sem, hn7_g0]
     all_goals first | done | exact rfl | exact ⟨rfl, rfl⟩ | trivial | omega
   ·have : k = p.decls.length := by omega
    subst this
    rw [List.drop_length] at hb
    refine awp_plain 1 (by kernel_rfl) rfl (fun g6 hg6 => ?_)
    simp only [go_sem, hlt, decide_false]
    refine hK9 _ ?_
    refine awp_seq_k (fun K15 hK15 => ?_)
    refine awp_f rfl ?_
    refine awp_exit ?_
    refine hK7 _ ?_
    refine awp_seq_k (fun K16 hK16 => ?_)
    refine awp_plain 1 (by kernel_rfl) rfl (fun g11 hg11 => ?_)
    simp only [go_sem]
    refine hK16 _ ?_
    refine awp_ret ?_
    refine ends_ev rfl ?_
    simp only [go_sem]
    exact Co.of_eq (by rw [if_neg h0, ← hb]; rfl)
theorem refEdP {p : Prg} (hp : smPr p) (hr : rightPr p = true) (hw : wN (prTys p) ≤ 600) : ∀ g d, ACalls E 11 [encPr p] [] g d (slEd (edP p)) [] := by
 have c2 := refEdges_calls p hp (by rw [rpE_eq hr]; exact prE_cnt hw) (body_le hw)
 rw [rpE_eq hr] at c2
 exact c2
end Go.Proofs.T
namespace Go.Proofs.T
open Go Go.Ab Go.RowKit
theorem any_noE {f : Ed → Bool} {l : List Ed} {k : Nat} (h : k < l.length) (ha : (l.take k).any f = false) (hf : f l[k] = false) : (l.take (k + 1)).any f = false := by
 rw [List.take_add_one, List.getElem?_eq_getElem h, List.any_append, ha]
 simp [hf]
theorem any_yesE {f : Ed → Bool} {l : List Ed} {k : Nat} (h : k < l.length) (hf : f l[k] = true) : l.any f = true := List.any_eq_true.2 ⟨_, List.getElem_mem h, hf⟩
set_option maxHeartbeats 1000000 in
set_option maxRecDepth 100000 in
theorem refCheck_calls (p : Prg) (hp : smPr p) (hr : rightPr p = true) (hw : wN (prTys p) ≤ 600) (g d : Nat) : ACalls E 25 [encPr p] [] g d (dI ((badAt (exL (edP p)) p.decls).getD (-1))) [] := by
 have he := refEdP hp hr hw
 have hE := prE_cnt hw
 have hl := edP_len hE
 have hx := fun g d => refExpansive_calls (edP p) hl g d
 have hBl := Nat.le_trans (exL_len (edP p)) hl
 have hdec : ∀ X ∈ p.decls, ∀ g d, ACalls E 34 [slEd [], encDe X] [] g d (slEd (stE X)) [] := fun X hX => by
  have h1 := rdE_eq (right_dec hr X hX)
  have h2 := deE_le (p := p) hX
  have c6 := refDec_calls X (hp.1.2 X hX) [] List.Pairwise.nil (by rw [h1]; simp; omega) (body_le hw X hX)
  rw [h1] at c6
  exact c6
 have hsl : ∀ X ∈ p.decls, (stE X).length ≤ 1000000 := fun X hX => by
  have h1 := setE_len (deE X)
  have h2 := deE_le (p := p) hX
  change (setE (deE X)).length ≤ _
  omega
 have k1 := hp.1.1
 generalize exL (edP p) = B at *
 refine acalls_of_awp (fn := Tryz.f25) (N := 51) Tryz.call25 Tryz.func25 rfl rfl (by simp) ?_
 simp only [go_sem]
 refine awp_seq_k (fun K1 hK1 => ?_)
 refine awp_plain 2 (by kernel_rfl) rfl (fun g0 hg0 => ?_)
 simp only [go_sem]
 refine hK1 _ ?_
 refine awp_seq_k (fun K2 hK2 => ?_)
 refine awp_ops (by kernel_rfl) rfl (fun g1 hg1 ops1 KR1 hops1 hKR1 => ?_)
 refine aops_eval 1 hops1 ?_
 simp only [go_sem]
 refine aops_pure hops1 rfl rfl rfl (he _ _) (CoL.refl _) ?_
 refine aops_pure hops1 rfl rfl rfl (hx _ _) (CoL.refl _) ?_
 refine aops_last 1 hops1 ?_
 simp only [go_sem]
 refine hKR1 _ ?_
 refine hK2 _ ?_
 refine awp_seq_k (fun K3 hK3 => ?_)
 refine awp_seq_k (fun K4 hK4 => ?_)
 refine awp_plain 1 (by kernel_rfl) rfl (fun g2 hg2 => ?_)
 simp only [go_sem]
 refine hK4 _ ?_
 refine awp_block ?_
 refine awp_loop (fun m st => ∃ k, k ≤ p.decls.length ∧ m = p.decls.length - k ∧ badAt B (p.decls.drop k) = badAt B p.decls ∧ Le { env := [(1, .ptr ⟨g0, 1, 0⟩ 0), (3, slEd B), (4, dN k)], σ := [(⟨g0, 1, 0⟩, .box 30 (prC p))] } st) p.decls.length ?_ ?_
 ·refine ⟨0, Nat.zero_le _, rfl, rfl, le_of ?_⟩
  simp only [go_sem]
  all_goals first | done | exact rfl | exact ⟨rfl, rfl⟩ | trivial | omega
 ·rintro m st ⟨k, hk, rfl, hb, hle⟩
  refine awp_keep hle ?_
  clear hle
  refine awp_seq_k (fun K5 hK5 => ?_)
  refine awp_seq_k (fun K6 hK6 => ?_)
  by_cases hlt : k < p.decls.length
  ·have hgm := getM (f := encDe) hlt
   have hbd := badAt_drop B p.decls hlt
   rw [hb] at hbd
   have hmem := List.getElem_mem hlt
   have c1 := hdec _ hmem
   have c2 := hsl _ hmem
   generalize p.decls[k] = X at *
   have hyes : (stE X).any (fun e => B.any (eqE e)) = true → badAt B p.decls = some X.pos := fun h => by rw [hbd, if_pos h]
   have hno : (stE X).any (fun e => B.any (eqE e)) = false → badAt B (p.decls.drop (k + 1)) = badAt B p.decls := fun h => by rw [hbd, if_neg (by rw [h]; exact Bool.false_ne_true)]
   generalize stE X = S at *
   refine awp_plain 5 (by kernel_rfl) rfl (fun g3 hg3 => ?_)
   simp only [go_sem, hlt, decide_true]
   refine hK6 _ ?_
   refine awp_t rfl ?_
   refine awp_skip ?_
   refine hK5 _ ?_
   refine awp_seq_k (fun K7 hK7 => ?_)
   refine awp_block ?_
   refine awp_seq_k (fun K8 hK8 => ?_)
   refine awp_ops (by kernel_rfl) rfl (fun g5 hg5 ops5 KR5 hops5 hKR5 => ?_)
   refine aops_eval 5 hops5 ?_
   simp only [go_sem, hgm]
   refine aops_pure hops5 rfl rfl rfl (c1 _ _) (.cons (.nil _) (CoL.refl _)) ?_
   refine aops_last 1 hops5 ?_
   simp only [go_sem]
   refine hKR5 _ ?_
   refine hK8 _ ?_
   refine awp_seq_k (fun K9 hK9 => ?_)
   refine awp_plain 1 (by kernel_rfl) rfl (fun g6 hg6 => ?_)
   simp only [go_sem]
   refine hK9 _ ?_
   refine awp_block ?_
   refine awp_loop (fun m st => ∃ j, j ≤ S.length ∧ m = S.length - j ∧ (S.take j).any (fun e => B.any (eqE e)) = false ∧ Le { env := [(1, .ptr ⟨g0, 1, 0⟩ 0), (3, slEd B), (4, dN k), (5, slEd S), (6, dN j)], σ := [(⟨g0, 1, 0⟩, .box 30 (prC p))] } st) S.length ?_ ?_
   ·refine ⟨0, Nat.zero_le _, rfl, rfl, le_of ?_⟩
    simp only [go_sem]
    all_goals first | done | exact rfl | exact ⟨rfl, rfl⟩ | trivial | omega
   ·rintro m st ⟨j, hj, rfl, haj, hle⟩
    refine awp_keep hle ?_
    clear hle
    refine awp_seq_k (fun K10 hK10 => ?_)
    refine awp_seq_k (fun K11 hK11 => ?_)
    by_cases hlj : j < S.length
    ·have hgj := getM (f := encEd) hlj
     have hj1 := @any_noE (fun e => B.any (eqE e)) S j hlj haj
     have hj2 := @any_yesE (fun e => B.any (eqE e)) S j hlj
     generalize S[j] = Y at *
     refine awp_plain 4 (by kernel_rfl) rfl (fun g7 hg7 => ?_)
     simp only [go_sem, hlj, decide_true]
     refine hK11 _ ?_
     refine awp_t rfl ?_
     refine awp_skip ?_
     refine hK10 _ ?_
     refine awp_seq_k (fun K12 hK12 => ?_)
     refine awp_block ?_
     refine awp_seq_k (fun K13 hK13 => ?_)
     refine awp_plain 1 (by kernel_rfl) rfl (fun g9 hg9 => ?_)
     simp only [go_sem]
     refine hK13 _ ?_
     refine awp_block ?_
     refine awp_loop (fun m st => ∃ i, i ≤ B.length ∧ m = B.length - i ∧ (B.take i).any (eqE Y) = false ∧ Le { env := [(1, .ptr ⟨g0, 1, 0⟩ 0), (3, slEd B), (4, dN k), (5, slEd S), (6, dN j), (7, dN i)], σ := [(⟨g0, 1, 0⟩, .box 30 (prC p))] } st) B.length ?_ ?_
     ·refine ⟨0, Nat.zero_le _, rfl, rfl, le_of ?_⟩
      simp only [go_sem]
      all_goals first | done | exact rfl | exact ⟨rfl, rfl⟩ | trivial | omega
     ·rintro m st ⟨i, hi, rfl, hai, hle⟩
      refine awp_keep hle ?_
      clear hle
      refine awp_seq_k (fun K14 hK14 => ?_)
      refine awp_seq_k (fun K15 hK15 => ?_)
      by_cases hli : i < B.length
      ·have hgi := getM (f := encEd) hli
       have hi1 := @any_noE (eqE Y) B i hli hai
       have hi2 := @any_yesE (eqE Y) B i hli
       generalize B[i] = Z at *
       refine awp_plain 4 (by kernel_rfl) rfl (fun g10 hg10 => ?_)
       simp only [go_sem, hli, decide_true]
       refine hK15 _ ?_
       refine awp_t rfl ?_
       refine awp_skip ?_
       refine hK14 _ ?_
       refine awp_seq_k (fun K16 hK16 => ?_)
       refine awp_block ?_
       refine awp_seq_k (fun K17 hK17 => ?_)
       by_cases hZ : Y = Z
       ·have hq : eqE Y Z = true := eqE_iff.2 hZ
        have hres := hyes (hj2 (hi2 hq))
        subst hZ
        refine awp_anyq (by kernel_rfl) rfl (fun g12 hg12 ops12 KR12 hops12 hKR12 => ?_)
        refine qrun_last 9 hops12 ?_
        simp only [go_sem, hgj, hgi, decide_true]
        refine hKR12 _ ?_
        refine hK17 _ ?_
        refine awp_t rfl ?_
        refine awp_seq_k (fun K18 hK18 => ?_)
        refine awp_plain 7 (by kernel_rfl) rfl (fun g13 hg13 => ?_)
        simp only [go_sem, hgm]
        refine hK18 _ ?_
        refine awp_ret ?_
        refine ends_ev rfl ?_
        simp only [go_sem]
        exact Co.of_eq (by rw [hres]; rfl)
       ·have hq : eqE Y Z = false := Bool.eq_false_iff.2 fun h => hZ (eqE_iff.1 h)
        have hne := edEq hZ
        refine awp_anyq (by kernel_rfl) rfl (fun g12 hg12 ops12 KR12 hops12 hKR12 => ?_)
        refine qrun_last 9 hops12 ?_
        simp only [go_sem, hgj, hgi, hne, decide_false]
        refine hKR12 _ ?_
        refine hK17 _ ?_
        refine awp_f rfl ?_
        refine awp_skip ?_
        refine hK16 _ ?_
        refine awp_plain 3 (by kernel_rfl) rfl (fun g11 hg11 => ?_)
        simp only [go_sem]
        try simp (disch := omega) only [wrapN]
        refine ⟨_, ?_, i + 1, hli, rfl, hi1 hq, le_of ?_⟩
        ·omega
        simp only [go_sem]
        all_goals first | done | exact rfl | exact ⟨rfl, rfl⟩ | trivial | omega
      ·have : i = B.length := by omega
       subst this
       rw [List.take_length] at hai
       refine awp_plain 4 (by kernel_rfl) rfl (fun g10 hg10 => ?_)
       simp only [go_sem, hli, decide_false]
       refine hK15 _ ?_
       refine awp_f rfl ?_
       refine awp_exit ?_
       refine hK12 _ ?_
       refine awp_plain 3 (by kernel_rfl) rfl (fun g8 hg8 => ?_)
       simp only [go_sem]
       try simp (disch := omega) only [wrapN]
       refine ⟨_, ?_, j + 1, hlj, rfl, hj1 hai, le_of ?_⟩
       ·omega
       simp only [go_sem]
       all_goals first | done | exact rfl | exact ⟨rfl, rfl⟩ | trivial | omega
    ·have : j = S.length := by omega
     subst this
     rw [List.take_length] at haj
     refine awp_plain 4 (by kernel_rfl) rfl (fun g7 hg7 => ?_)
     simp only [go_sem, hlj, decide_false]
     refine hK11 _ ?_
     refine awp_f rfl ?_
     refine awp_exit ?_
     refine hK7 _ ?_
     refine awp_plain 3 (by kernel_rfl) rfl (fun g4 hg4 => ?_)
     simp only [go_sem]
     try simp (disch := omega) only [wrapN]
     refine ⟨_, ?_, k + 1, hlt, rfl, hno haj, le_of ?_⟩
     ·omega
     simp only [go_sem]
     all_goals first | done | exact rfl | exact ⟨rfl, rfl⟩ | trivial | omega
  ·have : k = p.decls.length := by omega
   subst this
   rw [List.drop_length] at hb
   refine awp_plain 5 (by kernel_rfl) rfl (fun g3 hg3 => ?_)
   simp only [go_sem, hlt, decide_false]
   refine hK6 _ ?_
   refine awp_f rfl ?_
   refine awp_exit ?_
   refine hK3 _ ?_
   refine awp_seq_k (fun K19 hK19 => ?_)
   refine awp_plain 1 (by kernel_rfl) rfl (fun g14 hg14 => ?_)
   simp only [go_sem]
   refine hK19 _ ?_
   refine awp_ret ?_
   refine ends_ev rfl ?_
   simp only [go_sem]
   exact Co.of_eq (by rw [← hb]; rfl)
end Go.Proofs.T
