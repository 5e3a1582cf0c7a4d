/- A part of the proof, under no conditions of its own: ZAW. -/
import Derived.Test.YtjicgnbcelhoiaaGreatDoorZAV
import Derived.Test.YtjicgnbcelhoiaaGreatDoorZAG
import Derived.Stop.Asserts
namespace Go.Proofs.T
open Go Go.Ab Go.RowKit
theorem okRowsE : ∀ l : List Ed, okRows 7 (l.map encEd) := fun l => okRows_map 7 encEd l fun _ => ⟨rfl, rfl⟩
theorem cloneEd_calls (l : List Ed) (hl : l.length ≤ 1000000) (g d : Nat) : ACalls E 40 [slEd l] [] g d (.own ⟨g, d, 1⟩ l.length) [(⟨g, d, 1⟩, .arr 78 7 (l.map encEd))] := by
 cases l with
 | nil =>
  refine acalls_of_awp (fn := Tryz.f40) (N := 8) Tryz.call40 Tryz.func40 rfl rfl (by simp) ?_
  simp only [go_sem]
  refine awp_seq_k (fun K1 hK1 => ?_)
  refine awp_plain 1 (by kernel_rfl) rfl (fun g0 hg0 => ?_)
  simp only [go_sem]
  refine hK1 _ ?_
  refine awp_seq_k (fun K2 hK2 => ?_)
  refine awp_seq_k (fun K3 hK3 => ?_)
  refine awp_plain 2 (by kernel_rfl) rfl (fun g1 hg1 => ?_)
  simp only [go_sem]
  refine hK3 _ ?_
  refine awp_unk rfl ?_ ?_
  ·refine awp_seq_k (fun K4 hK4 => ?_)
   refine awp_plain 1 (by kernel_rfl) rfl (fun g2 hg2 => ?_)
   simp only [go_sem]
   refine hK4 _ ?_
   refine awp_ret ?_
   refine ret_nil 2 78 7 rfl fun gz hgz => ?_
   refine ends_own [⟨gz, 0, 0⟩] rfl ?_
   simp only [go_sem, newSto]
   exact Co.refl _
  ·refine awp_skip ?_
   refine hK2 _ ?_
   refine awp_seq_k (fun K5 hK5 => ?_)
   refine awp_ops (by kernel_rfl) rfl (fun g3 hg3 ops3 KR3 hops3 hKR3 => ?_)
   refine aops_eval 2 hops3 ?_
   simp only [go_sem]
   refine aops_app hops3 rfl rfl rfl rfl rfl es47 sz78 by78 ze78 rfl (by decide) ?_
   simp only [go_sem, List.length_nil]
   first | refine ⟨⟨by omega, by omega⟩, ?_⟩ | skip
   refine aops_last 1 hops3 ?_
   simp only [go_sem]
   refine hKR3 _ ?_
   refine hK5 _ ?_
   refine awp_ret ?_
   refine ends_own [⟨g3, 7, 0⟩] rfl ?_
   simp only [go_sem, newSto]
   exact Co.refl _
 | cons a l =>
  simp only [List.length_cons] at hl
  refine acalls_of_awp (fn := Tryz.f40) (N := 8) Tryz.call40 Tryz.func40 rfl rfl (by simp) ?_
  simp only [go_sem]
  refine awp_seq_k (fun K1 hK1 => ?_)
  refine awp_plain 1 (by kernel_rfl) rfl (fun g0 hg0 => ?_)
  simp only [go_sem]
  refine hK1 _ ?_
  refine awp_seq_k (fun K2 hK2 => ?_)
  refine awp_seq_k (fun K3 hK3 => ?_)
  refine awp_plain 2 (by kernel_rfl) rfl (fun g1 hg1 => ?_)
  simp only [go_sem]
  refine hK3 _ ?_
  refine awp_f rfl ?_
  refine awp_skip ?_
  refine hK2 _ ?_
  refine awp_seq_k (fun K4 hK4 => ?_)
  refine awp_ops (by kernel_rfl) rfl (fun g3 hg3 ops3 KR3 hops3 hKR3 => ?_)
  refine aops_eval 2 hops3 ?_
  simp only [go_sem]
  refine aops_app hops3 rfl rfl rfl rfl rfl es47 sz78 by78 ze78 rfl (by decide) ?_
  simp only [go_sem, List.length_map, okRowsE, List.length_cons, List.length_nil, Nat.zero_add, List.nil_append]
  first | refine ⟨⟨by omega, by omega⟩, ?_⟩ | skip
  refine aops_last 1 hops3 ?_
  simp only [go_sem, List.nil_append]
  refine hKR3 _ ?_
  refine hK4 _ ?_
  refine awp_ret ?_
  refine ends_own [⟨g3, 7, 0⟩] rfl ?_
  simp only [go_sem, newSto]
  exact Co.refl _
def idxI (f : Ed → Bool) (l : List Ed) : Int := match l.findIdx? f with | some i => (i : Int) | none => -1
theorem idxI_some {f : Ed → Bool} {l : List Ed} {k : Nat} (h : k < l.length) (hn : ∀ x ∈ l.take k, f x = false) (hf : f l[k] = true) : idxI f l = (k : Int) := by
 unfold idxI
 have : l.findIdx? f = some k := by
  rw [List.findIdx?_eq_some_iff_getElem]
  refine ⟨h, hf, fun j hj => ?_⟩
  have := hn l[j] (by
   rw [List.mem_take_iff_getElem]
   exact ⟨j, by omega, rfl⟩)
  simp [this]
 rw [this]
theorem idxI_none {f : Ed → Bool} {l : List Ed} (hn : ∀ x ∈ l, f x = false) : idxI f l = -1 := by
 unfold idxI
 have : l.findIdx? f = none := List.findIdx?_eq_none_iff.2 hn
 rw [this]
theorem idxI_any (f : Ed → Bool) (l : List Ed) : decide (0 ≤ idxI f l) = l.any f := by
 unfold idxI
 cases h : l.findIdx? f with
 | none =>
  have := List.findIdx?_eq_none_iff.1 h
  rw [List.any_eq_false.2 fun x hx => by rw [this x hx]; simp]
  rfl
 | some i =>
  obtain ⟨h1, h2, _⟩ := List.findIdx?_eq_some_iff_getElem.1 h
  rw [List.any_eq_true.2 ⟨l[i], List.getElem_mem h1, h2⟩]
  simp
variable {f : Ed → Bool} {fn : FuncId} {cap : List D}
set_option maxRecDepth 100000 in
theorem indexFunc_calls (hf : ∀ e g d, ACalls E fn (encEd e :: cap) [] g d (dB (f e)) []) (l : List Ed) (hl : l.length ≤ 1000000) (g d : Nat) : ACalls E 68 [slEd l, .func (.func fn) [] cap] [] g d (dI (idxI f l)) [] := by
 refine acalls_of_awp (fn := Tryz.f68) (N := 19) Tryz.call68 Tryz.func68 rfl rfl (by simp) ?_
 simp only [go_sem]
 refine awp_seq_k (fun K1 hK1 => ?_)
 refine awp_plain 1 (by kernel_rfl) rfl (fun g0 hg0 => ?_)
 simp only [go_sem]
 refine hK1 _ ?_
 refine awp_seq_k (fun K2 hK2 => ?_)
 refine awp_seq_k (fun K3 hK3 => ?_)
 refine awp_plain 3 (by kernel_rfl) rfl (fun g1 hg1 => ?_)
 simp only [go_sem]
 refine hK3 _ ?_
 refine awp_block ?_
 refine awp_loop (fun m st => ∃ k, k ≤ l.length ∧ m = l.length - k ∧ (∀ x ∈ l.take k, f x = false) ∧ Le { env := [(0, slEd l), (1, .func (.func fn) [] cap), (7, dN l.length), (8, dN k)], σ := [] } st) l.length ?_ ?_
 ·refine ⟨0, Nat.zero_le _, rfl, (fun x hx => nomatch hx), le_of ?_⟩
  simp only [go_sem]
  all_goals first | done | exact rfl | exact ⟨rfl, rfl⟩ | trivial | omega
 ·rintro m st ⟨k, hk, rfl, hno, hle⟩
  refine awp_keep hle ?_
  clear hle
  refine awp_seq_k (fun K4 hK4 => ?_)
  by_cases hlt : k < l.length
  ·have hgm := getM (f := encEd) hlt
   have hi1 := @idxI_some f l k hlt hno
   have hnx : f l[k] = false → ∀ x ∈ l.take (k + 1), f x = false := fun h x hx => by
    rw [List.take_add_one, List.getElem?_eq_getElem hlt] at hx
    rcases List.mem_append.1 hx with hx | hx
    ·exact hno x hx
    ·simp only [Option.toList_some, List.mem_singleton] at hx
     rw [hx, h]
   have hc := hf l[k]
   generalize l[k] = X at *
   refine awp_plain 1 (by kernel_rfl) rfl (fun g2 hg2 => ?_)
   simp only [go_sem, hlt, decide_true]
   refine hK4 _ ?_
   refine awp_seq_k (fun K5 hK5 => ?_)
   refine awp_t rfl ?_
   refine awp_skip ?_
   refine hK5 _ ?_
   refine awp_seq_k (fun K6 hK6 => ?_)
   refine awp_block ?_
   refine awp_seq_k (fun K7 hK7 => ?_)
   refine awp_plain 2 (by kernel_rfl) rfl (fun g3 hg3 => ?_)
   simp only [go_sem]
   refine hK7 _ ?_
   refine awp_seq_k (fun K8 hK8 => ?_)
   cases hX : f X with
   | true =>
    refine awp_ops (by kernel_rfl) rfl (fun g4 hg4 ops4 KR4 hops4 hKR4 => ?_)
    refine aops_eval 5 hops4 ?_
    simp only [go_sem, hgm]
    refine aops_pure hops4 rfl rfl rfl (hc _ _) (CoL.refl _) ?_
    refine aops_last 0 hops4 ?_
    simp only [go_sem, hX]
    refine hKR4 _ ?_
    refine hK8 _ ?_
    refine awp_t rfl ?_
    refine awp_seq_k (fun K9 hK9 => ?_)
    refine awp_plain 2 (by kernel_rfl) rfl (fun g5 hg5 => ?_)
    simp only [go_sem]
    refine hK9 _ ?_
    refine awp_ret ?_
    refine ends_ev rfl ?_
    simp only [go_sem]
    exact Co.of_eq (by rw [hi1 hX])
   | false =>
    refine awp_ops (by kernel_rfl) rfl (fun g4 hg4 ops4 KR4 hops4 hKR4 => ?_)
    refine aops_eval 5 hops4 ?_
    simp only [go_sem, hgm]
    refine aops_pure hops4 rfl rfl rfl (hc _ _) (CoL.refl _) ?_
    refine aops_last 0 hops4 ?_
    simp only [go_sem, hX]
    refine hKR4 _ ?_
    refine hK8 _ ?_
    refine awp_f rfl ?_
    refine awp_skip ?_
    refine hK6 _ ?_
    refine awp_plain 2 (by kernel_rfl) rfl (fun g6 hg6 => ?_)
    simp only [go_sem]
    try simp (disch := omega) only [wrapN]
    refine ⟨_, ?_, k + 1, hlt, rfl, hnx hX, le_of ?_⟩
    ·omega
    simp only [go_sem]
    all_goals first | done | exact rfl | exact ⟨rfl, rfl⟩ | trivial | omega
  ·have : k = l.length := by omega
   subst this
   rw [List.take_length] at hno
   refine awp_plain 1 (by kernel_rfl) rfl (fun g2 hg2 => ?_)
   simp only [go_sem, hlt, decide_false]
   refine hK4 _ ?_
   refine awp_seq_k (fun K10 hK10 => ?_)
   refine awp_f rfl ?_
   refine awp_exit ?_
   refine hK2 _ ?_
   refine awp_seq_k (fun K11 hK11 => ?_)
   refine awp_plain 1 (by kernel_rfl) rfl (fun g7 hg7 => ?_)
   simp only [go_sem]
   refine hK11 _ ?_
   refine awp_ret ?_
   refine ends_ev rfl ?_
   simp only [go_sem]
   exact Co.of_eq (by rw [idxI_none hno])
set_option maxRecDepth 100000 in
theorem indexFuncO_calls (hf : ∀ e g d, ACalls E fn (encEd e :: cap) [] g d (dB (f e)) []) (l : List Ed) (hl : l.length ≤ 1000000) (n : Nm) (g d : Nat) : ACalls E 68 [.own n l.length, .func (.func fn) [] cap] [(n, .arr 78 7 (l.map encEd))] g d (dI (idxI f l)) [(n, .arr 78 7 (l.map encEd))] := by
 refine acalls_of_awp (fn := Tryz.f68) (N := 19) Tryz.call68 Tryz.func68 rfl rfl (by simp) ?_
 simp only [go_sem]
 refine awp_seq_k (fun K1 hK1 => ?_)
 refine awp_plain 1 (by kernel_rfl) rfl (fun g0 hg0 => ?_)
 simp only [go_sem]
 refine hK1 _ ?_
 refine awp_seq_k (fun K2 hK2 => ?_)
 refine awp_seq_k (fun K3 hK3 => ?_)
 refine awp_plain 3 (by kernel_rfl) rfl (fun g1 hg1 => ?_)
 simp only [go_sem]
 refine hK3 _ ?_
 refine awp_block ?_
 refine awp_loop (fun m st => ∃ k, k ≤ l.length ∧ m = l.length - k ∧ (∀ x ∈ l.take k, f x = false) ∧ Le { env := [(0, .own n l.length), (1, .func (.func fn) [] cap), (7, dN l.length), (8, dN k)], σ := [(n, .arr 78 7 (l.map encEd))] } st) l.length ?_ ?_
 ·refine ⟨0, Nat.zero_le _, rfl, (fun x hx => nomatch hx), le_of ?_⟩
  simp only [go_sem]
  all_goals first | done | exact rfl | exact ⟨rfl, rfl⟩ | trivial | omega
 ·rintro m st ⟨k, hk, rfl, hno, hle⟩
  refine awp_keep hle ?_
  clear hle
  refine awp_seq_k (fun K4 hK4 => ?_)
  by_cases hlt : k < l.length
  ·have hgm := getM (f := encEd) hlt
   have hi1 := @idxI_some f l k hlt hno
   have hnx : f l[k] = false → ∀ x ∈ l.take (k + 1), f x = false := fun h x hx => by
    rw [List.take_add_one, List.getElem?_eq_getElem hlt] at hx
    rcases List.mem_append.1 hx with hx | hx
    ·exact hno x hx
    ·simp only [Option.toList_some, List.mem_singleton] at hx
     rw [hx, h]
   have hc := hf l[k]
   generalize l[k] = X at *
   refine awp_plain 1 (by kernel_rfl) rfl (fun g2 hg2 => ?_)
   simp only [go_sem, hlt, decide_true]
   refine hK4 _ ?_
   refine awp_seq_k (fun K5 hK5 => ?_)
   refine awp_t rfl ?_
   refine awp_skip ?_
   refine hK5 _ ?_
   refine awp_seq_k (fun K6 hK6 => ?_)
   refine awp_block ?_
   refine awp_seq_k (fun K7 hK7 => ?_)
   refine awp_plain 2 (by kernel_rfl) rfl (fun g3 hg3 => ?_)
   simp only [go_sem]
   refine hK7 _ ?_
   refine awp_seq_k (fun K8 hK8 => ?_)
   cases hX : f X with
   | true =>
    refine awp_ops (by kernel_rfl) rfl (fun g4 hg4 ops4 KR4 hops4 hKR4 => ?_)
    refine aops_eval 5 hops4 ?_
    simp only [go_sem, hlt, hgm]
    refine aops_pure hops4 rfl rfl rfl (hc _ _) (CoL.refl _) ?_
    refine aops_last 0 hops4 ?_
    simp only [go_sem, hX]
    refine hKR4 _ ?_
    refine hK8 _ ?_
    refine awp_t rfl ?_
    refine awp_seq_k (fun K9 hK9 => ?_)
    refine awp_plain 2 (by kernel_rfl) rfl (fun g5 hg5 => ?_)
    simp only [go_sem]
    refine hK9 _ ?_
    refine awp_ret ?_
    refine ends_keep rfl (by simp [go_sem]) ?_
    simp only [go_sem]
    exact Co.of_eq (by rw [hi1 hX])
   | false =>
    refine awp_ops (by kernel_rfl) rfl (fun g4 hg4 ops4 KR4 hops4 hKR4 => ?_)
    refine aops_eval 5 hops4 ?_
    simp only [go_sem, hlt, hgm]
    refine aops_pure hops4 rfl rfl rfl (hc _ _) (CoL.refl _) ?_
    refine aops_last 0 hops4 ?_
    simp only [go_sem, hX]
    refine hKR4 _ ?_
    refine hK8 _ ?_
    refine awp_f rfl ?_
    refine awp_skip ?_
    refine hK6 _ ?_
    refine awp_plain 2 (by kernel_rfl) rfl (fun g6 hg6 => ?_)
    simp only [go_sem]
    try simp (disch := omega) only [wrapN]
    refine ⟨_, ?_, k + 1, hlt, rfl, hnx hX, le_of ?_⟩
    ·omega
    simp only [go_sem]
    all_goals first | done | exact rfl | exact ⟨rfl, rfl⟩ | trivial | omega
  ·have : k = l.length := by omega
   subst this
   rw [List.take_length] at hno
   refine awp_plain 1 (by kernel_rfl) rfl (fun g2 hg2 => ?_)
   simp only [go_sem, hlt, decide_false]
   refine hK4 _ ?_
   refine awp_seq_k (fun K10 hK10 => ?_)
   refine awp_f rfl ?_
   refine awp_exit ?_
   refine hK2 _ ?_
   refine awp_seq_k (fun K11 hK11 => ?_)
   refine awp_plain 1 (by kernel_rfl) rfl (fun g7 hg7 => ?_)
   simp only [go_sem]
   refine hK11 _ ?_
   refine awp_ret ?_
   refine ends_keep rfl (by simp [go_sem]) ?_
   simp only [go_sem]
   exact Co.of_eq (by rw [idxI_none hno])
theorem containsFunc_calls (hf : ∀ e g d, ACalls E fn (encEd e :: cap) [] g d (dB (f e)) []) (l : List Ed) (hl : l.length ≤ 1000000) (g d : Nat) : ACalls E 45 [slEd l, .func (.func fn) [] cap] [] g d (dB (l.any f)) [] := by
 refine acalls_of_awp (fn := Tryz.f45) (N := 9) Tryz.call45 Tryz.func45 rfl rfl (by simp) ?_
 simp only [go_sem]
 refine awp_seq_k (fun K1 hK1 => ?_)
 refine awp_plain 1 (by kernel_rfl) rfl (fun g0 hg0 => ?_)
 simp only [go_sem]
 refine hK1 _ ?_
 refine awp_seq_k (fun K2 hK2 => ?_)
 refine awp_ops (by kernel_rfl) rfl (fun g1 hg1 ops1 KR1 hops1 hKR1 => ?_)
 refine aops_eval 2 hops1 ?_
 simp only [go_sem]
 refine aops_pure hops1 rfl rfl rfl (indexFunc_calls hf l hl _ _) (CoL.refl _) ?_
 refine aops_last 2 hops1 ?_
 simp only [go_sem]
 refine hKR1 _ ?_
 refine hK2 _ ?_
 refine awp_ret ?_
 refine ends_ev rfl ?_
 simp only [go_sem]
 exact Co.of_eq (by rw [idxI_any])
open Classical in
noncomputable def eqE (a b : Ed) : Bool := decide (a = b)
theorem eqE_iff {a b : Ed} : eqE a b = true ↔ a = b := by unfold eqE; simp
set_option maxRecDepth 100000 in
theorem indexEd_calls (l : List Ed) (hl : l.length ≤ 1000000) (e : Ed) (g d : Nat) : ACalls E 69 [slEd l, encEd e] [] g d (dI (idxI (eqE e) l)) [] := by
 refine acalls_of_awp (fn := Tryz.f69) (N := 19) Tryz.call69 Tryz.func69 rfl rfl (by simp) ?_
 simp only [go_sem]
 refine awp_seq_k (fun K1 hK1 => ?_)
 refine awp_plain 2 (by kernel_rfl) rfl (fun g0 hg0 => ?_)
 simp only [go_sem]
 refine hK1 _ ?_
 refine awp_seq_k (fun K2 hK2 => ?_)
 refine awp_seq_k (fun K3 hK3 => ?_)
 refine awp_plain 3 (by kernel_rfl) rfl (fun g1 hg1 => ?_)
 simp only [go_sem]
 refine hK3 _ ?_
 refine awp_block ?_
 refine awp_loop (fun m st => ∃ k, k ≤ l.length ∧ m = l.length - k ∧ (∀ x ∈ l.take k, eqE e x = false) ∧ Le { env := [(0, slEd l), (3, .ptr ⟨g0, 3, 0⟩ 0), (7, dN l.length), (8, dN k)], σ := [(⟨g0, 3, 0⟩, .box 78 (edC e))] } st) l.length ?_ ?_
 ·refine ⟨0, Nat.zero_le _, rfl, (fun x hx => nomatch hx), le_of ?_⟩
  simp only [go_sem]
  all_goals first | done | exact rfl | exact ⟨rfl, rfl⟩ | trivial | omega
 ·rintro m st ⟨k, hk, rfl, hno, hle⟩
  refine awp_keep hle ?_
  clear hle
  refine awp_seq_k (fun K4 hK4 => ?_)
  by_cases hlt : k < l.length
  ·have hgm := getM (f := encEd) hlt
   have hi1 := @idxI_some (eqE e) l k hlt hno
   have hnx : eqE e l[k] = false → ∀ x ∈ l.take (k + 1), eqE e x = false := fun h x hx => by
    rw [List.take_add_one, List.getElem?_eq_getElem hlt] at hx
    rcases List.mem_append.1 hx with hx | hx
    ·exact hno x hx
    ·simp only [Option.toList_some, List.mem_singleton] at hx
     rw [hx, h]
   generalize l[k] = X at *
   refine awp_plain 1 (by kernel_rfl) rfl (fun g2 hg2 => ?_)
   simp only [go_sem, hlt, decide_true]
   refine hK4 _ ?_
   refine awp_seq_k (fun K5 hK5 => ?_)
   refine awp_t rfl ?_
   refine awp_skip ?_
   refine hK5 _ ?_
   refine awp_seq_k (fun K6 hK6 => ?_)
   refine awp_block ?_
   refine awp_seq_k (fun K7 hK7 => ?_)
   refine awp_plain 2 (by kernel_rfl) rfl (fun g3 hg3 => ?_)
   simp only [go_sem]
   refine hK7 _ ?_
   refine awp_seq_k (fun K8 hK8 => ?_)
   by_cases hX : e = X
   ·have hq : eqE e X = true := eqE_iff.2 hX
    subst hX
    refine awp_anyq (by kernel_rfl) rfl (fun g4 hg4 ops4 KR4 hops4 hKR4 => ?_)
    refine qrun_last 6 hops4 ?_
    simp only [go_sem, hgm, decide_true]
    refine hKR4 _ ?_
    refine hK8 _ ?_
    refine awp_t rfl ?_
    refine awp_seq_k (fun K9 hK9 => ?_)
    refine awp_plain 2 (by kernel_rfl) rfl (fun g5 hg5 => ?_)
    simp only [go_sem]
    refine hK9 _ ?_
    refine awp_ret ?_
    refine ends_ev rfl ?_
    simp only [go_sem]
    exact Co.of_eq (by rw [hi1 hq])
   ·have hq : eqE e X = false := Bool.eq_false_iff.2 fun h => hX (eqE_iff.1 h)
    have hne := edEq hX
    refine awp_anyq (by kernel_rfl) rfl (fun g4 hg4 ops4 KR4 hops4 hKR4 => ?_)
    refine qrun_last 6 hops4 ?_
    simp only [go_sem, hgm, hne, decide_false]
    refine hKR4 _ ?_
    refine hK8 _ ?_
    refine awp_f rfl ?_
    refine awp_skip ?_
    refine hK6 _ ?_
    refine awp_plain 2 (by kernel_rfl) rfl (fun g6 hg6 => ?_)
    simp only [go_sem]
    try simp (disch := omega) only [wrapN]
    refine ⟨_, ?_, k + 1, hlt, rfl, hnx hq, le_of ?_⟩
    ·omega
    simp only [go_sem]
    all_goals first | done | exact rfl | exact ⟨rfl, rfl⟩ | trivial | omega
  ·have : k = l.length := by omega
   subst this
   rw [List.take_length] at hno
   refine awp_plain 1 (by kernel_rfl) rfl (fun g2 hg2 => ?_)
   simp only [go_sem, hlt, decide_false]
   refine hK4 _ ?_
   refine awp_seq_k (fun K10 hK10 => ?_)
   refine awp_f rfl ?_
   refine awp_exit ?_
   refine hK2 _ ?_
   refine awp_seq_k (fun K11 hK11 => ?_)
   refine awp_plain 1 (by kernel_rfl) rfl (fun g7 hg7 => ?_)
   simp only [go_sem]
   refine hK11 _ ?_
   refine awp_ret ?_
   refine ends_ev rfl ?_
   simp only [go_sem]
   exact Co.of_eq (by rw [idxI_none hno])
theorem contains_calls (l : List Ed) (hl : l.length ≤ 1000000) (e : Ed) (g d : Nat) : ACalls E 44 [slEd l, encEd e] [] g d (dB (l.any (eqE e))) [] := by
 refine acalls_of_awp (fn := Tryz.f44) (N := 9) Tryz.call44 Tryz.func44 rfl rfl (by simp) ?_
 simp only [go_sem]
 refine awp_seq_k (fun K1 hK1 => ?_)
 refine awp_plain 2 (by kernel_rfl) rfl (fun g0 hg0 => ?_)
 simp only [go_sem]
 refine hK1 _ ?_
 refine awp_seq_k (fun K2 hK2 => ?_)
 refine awp_ops (by kernel_rfl) rfl (fun g1 hg1 ops1 KR1 hops1 hKR1 => ?_)
 refine aops_eval 2 hops1 ?_
 simp only [go_sem]
 refine aops_pure hops1 rfl rfl rfl (indexEd_calls l hl e _ _) (CoL.refl _) ?_
 refine aops_last 2 hops1 ?_
 simp only [go_sem]
 refine hKR1 _ ?_
 refine hK2 _ ?_
 refine awp_ret ?_
 refine ends_ev rfl ?_
 simp only [go_sem]
 exact Co.of_eq (by rw [idxI_any])
end Go.Proofs.T
namespace Go.Proofs.T
open Go Go.Ab Go.RowKit
variable {f : Ed → Bool} {fn : FuncId} {cap : List D}
set_option maxHeartbeats 1000000 in
set_option maxRecDepth 100000 in
theorem deleteFunc_calls (hf : ∀ e g d, ACalls E fn (encEd e :: cap) [] g d (dB (f e)) []) (l : List Ed) (hl : l.length ≤ 1000000) (q c : Nat) (g d : Nat) :
  ACalls E 39 [.own ⟨q, c, 1⟩ l.length, .func (.func fn) [] cap] [(⟨q, c, 1⟩, .arr 78 7 (l.map encEd))] g d (slEd (l.filter fun x => !f x)) [] := by
 obtain ⟨n, hn⟩ : ∃ n : Nm, n = ⟨q, c, 1⟩ := ⟨_, rfl⟩
 rw [← hn]
 obtain ⟨nf, hnf⟩ : ∃ nf : Ed → Bool, nf = fun x => !f x := ⟨_, rfl⟩
 rw [← hnf]
 refine acalls_of_awp (fn := Tryz.f39) (N := 42) Tryz.call39 Tryz.func39 rfl rfl (by simp) ?_
 simp only [go_sem]
 refine awp_seq_k (fun K1 hK1 => ?_)
 refine awp_plain 1 (by kernel_rfl) rfl (fun g0 hg0 => ?_)
 simp only [go_sem]
 refine hK1 _ ?_
 refine awp_seq_k (fun K2 hK2 => ?_)
 refine awp_ops (by kernel_rfl) rfl (fun g1 hg1 ops1 KR1 hops1 hKR1 => ?_)
 refine aops_eval 2 hops1 ?_
 simp only [go_sem]
 refine aops_call hops1 rfl rfl rfl (indexFuncO_calls hf l hl n _ _) (CoL.refl _) (by simp [go_sem]) ?_
 refine aops_last 1 hops1 ?_
 simp only [go_sem]
 refine hKR1 _ ?_
 refine hK2 _ ?_
 refine awp_seq_k (fun K3 hK3 => ?_)
 refine awp_seq_k (fun K4 hK4 => ?_)
 cases hi : l.findIdx? f with
 | none =>
  have hid : idxI f l = -1 := by unfold idxI; rw [hi]
  have hall := List.findIdx?_eq_none_iff.1 hi
  have hres : l.filter nf = l := by
   rw [List.filter_eq_self]
   intro x hx
   rw [hnf]
   simp [hall x hx]
  refine awp_plain 2 (by kernel_rfl) rfl (fun g2 hg2 => ?_)
  simp only [go_sem, hid, decide_true]
  refine hK4 _ ?_
  refine awp_t rfl ?_
  refine awp_seq_k (fun K5 hK5 => ?_)
  refine awp_plain 2 (by kernel_rfl) rfl (fun g3 hg3 => ?_)
  simp only [go_sem]
  refine hK5 _ ?_
  refine awp_ret ?_
  refine ret_frz n ?_
  simp only [go_sem]
  refine ends_ev rfl ?_
  simp only [go_sem]
  exact Co.of_eq (by rw [hres])
 | some i0 =>
  have hid : idxI f l = (i0 : Int) := by unfold idxI; rw [hi]
  obtain ⟨hi1, hi2, hi3⟩ := List.findIdx?_eq_some_iff_getElem.1 hi
  have hpre : ∀ x ∈ l.take i0, nf x = true := fun x hx => by
   obtain ⟨j, hj, rfl⟩ := List.mem_take_iff_getElem.1 hx
   have := hi3 j (by omega)
   rw [hnf]
   simpa using this
  have hf0 : (l.take (i0 + 1)).filter nf = l.take i0 := by
   rw [filterTake _ hi1, List.filter_eq_self.2 hpre, if_neg (by rw [hnf]; simp [hi2]), List.append_nil]
  refine awp_plain 2 (by kernel_rfl) rfl (fun g2 hg2 => ?_)
  simp only [go_sem, hid, show ((i0 : Int) = -1) = False from eq_false (by omega), decide_false]
  refine hK4 _ ?_
  refine awp_f rfl ?_
  refine awp_skip ?_
  refine hK3 _ ?_
  refine awp_seq_k (fun K6 hK6 => ?_)
  refine awp_seq_k (fun K7 hK7 => ?_)
  refine awp_plain 3 (by kernel_rfl) rfl (fun g4 hg4 => ?_)
  simp only [go_sem]
  try simp (disch := omega) only [wrapN]
  refine hK7 _ ?_
  refine awp_block ?_
  refine awp_loop (fun m st => ∃ (i j : Nat) (R : List Ed), j ≤ l.length ∧ i < j ∧ m = l.length - j ∧ R.length = l.length ∧ ((l.take j).filter nf).length = i ∧ R.take i = (l.take j).filter nf ∧ (∀ q, j ≤ q → R[q]? = l[q]?) ∧
    Le { env := [(0, .own n l.length), (1, .func (.func fn) [] cap), (5, dN i), (6, dN j)], σ := [(n, .arr 78 7 (R.map encEd))] } st) (l.length - (i0 + 1)) ?_ ?_
  ·refine ⟨i0, i0 + 1, l, hi1, Nat.lt_succ_self _, rfl, rfl, ?_, hf0.symm, (fun q _ => rfl), le_of ?_⟩
   ·rw [hf0, List.length_take]
    omega
   simp only [go_sem]
   all_goals first | done | exact rfl | exact ⟨rfl, rfl⟩ | trivial | omega
  ·rintro m st ⟨i, j, R, hj, hij, rfl, hRl, hil, hRi, hq, hle⟩
   refine awp_keep hle ?_
   clear hle
   refine awp_seq_k (fun K8 hK8 => ?_)
   refine awp_seq_k (fun K9 hK9 => ?_)
   by_cases hlj : j < l.length
   ·have hRj : R[j]? = some l[j] := by rw [hq j (Nat.le_refl _)]; exact List.getElem?_eq_getElem hlj
    have hgm : (R.map encEd)[j]? = some (encEd l[j]) := by rw [List.getElem?_map, hRj]; rfl
    have hft := filterTake nf hlj
    have hc := hf l[j]
    have hjR : j < R.length := by omega
    have hiR : i < R.length := by omega
    have hgi := getM (f := encEd) (l := R) (k := i) hiR
    generalize l[j] = X at *
    refine awp_plain 4 (by kernel_rfl) rfl (fun g5 hg5 => ?_)
    simp only [go_sem, hlj, decide_true]
    refine hK9 _ ?_
    refine awp_t rfl ?_
    refine awp_skip ?_
    refine hK8 _ ?_
    refine awp_seq_k (fun K10 hK10 => ?_)
    refine awp_block ?_
    refine awp_seq_k (fun K11 hK11 => ?_)
    refine awp_plain 6 (by kernel_rfl) rfl (fun g7 hg7 => ?_)
    simp only [go_sem, hjR, hgm]
    refine hK11 _ ?_
    refine awp_seq_k (fun K12 hK12 => ?_)
    have hng : n ≠ ⟨g7, 7, 0⟩ := by rw [hn]; simp
    cases hX : f X with
    | true =>
     refine awp_ops (by kernel_rfl) rfl (fun g8 hg8 ops8 KR8 hops8 hKR8 => ?_)
     refine aops_eval 2 hops8 ?_
     simp only [go_sem, hng]
     refine aops_pure hops8 rfl rfl rfl (hc _ _) (CoL.refl _) ?_
     refine aops_last 1 hops8 ?_
     simp only [go_sem, hX, Bool.not_true]
     refine hKR8 _ ?_
     refine hK12 _ ?_
     refine awp_f rfl ?_
     refine awp_skip ?_
     refine hK10 _ ?_
     refine awp_plain 3 (by kernel_rfl) rfl (fun g6 hg6 => ?_)
     simp only [go_sem]
     try simp (disch := omega) only [wrapN]
     refine ⟨_, ?_, i, j + 1, R, hlj, by omega, rfl, hRl, ?_, ?_, fun q hq2 => hq q (by omega), le_of ?_⟩
     ·omega
     ·rw [hft, if_neg (by rw [hnf]; simp [hX]), List.append_nil, hil]
     ·rw [hft, if_neg (by rw [hnf]; simp [hX]), List.append_nil, hRi]
     simp only [go_sem, Ne.symm hng]
     all_goals first | done | exact rfl | exact ⟨rfl, rfl⟩ | trivial | omega
    | false =>
     refine awp_ops (by kernel_rfl) rfl (fun g8 hg8 ops8 KR8 hops8 hKR8 => ?_)
     refine aops_eval 2 hops8 ?_
     simp only [go_sem, hng]
     refine aops_pure hops8 rfl rfl rfl (hc _ _) (CoL.refl _) ?_
     refine aops_last 1 hops8 ?_
     simp only [go_sem, hX, Bool.not_false]
     refine hKR8 _ ?_
     refine hK12 _ ?_
     refine awp_t rfl ?_
     refine awp_seq_k (fun K13 hK13 => ?_)
     refine awp_plain 5 (by kernel_rfl) rfl (fun g9 hg9 => ?_)
     simp only [go_sem, hiR, hgi, hng, Ne.symm hng]
     refine hK13 _ ?_
     refine awp_plain 3 (by kernel_rfl) rfl (fun g10 hg10 => ?_)
     simp only [go_sem]
     try simp (disch := omega) only [wrapN]
     refine hK10 _ ?_
     refine awp_plain 3 (by kernel_rfl) rfl (fun g6 hg6 => ?_)
     simp only [go_sem]
     try simp (disch := omega) only [wrapN]
     refine ⟨_, ?_, i + 1, j + 1, R.set i X, hlj, by omega, rfl, by rw [List.length_set]; exact hRl, ?_, ?_, fun q hq2 => ?_, le_of ?_⟩
     ·omega
     ·rw [hft, if_pos (by rw [hnf]; simp [hX]), List.length_append, hil]
      rfl
     ·rw [hft, if_pos (by rw [hnf]; simp [hX]), List.take_add_one, List.getElem?_set_self hiR, List.take_set_of_le (Nat.le_refl _), hRi]
      rfl
     ·rw [List.getElem?_set_ne (by omega)]
      exact hq q (by omega)
     simp only [go_sem, List.map_set, Ne.symm hng]
     all_goals first | done | exact rfl | exact ⟨rfl, rfl⟩ | trivial | omega
   ·have : j = l.length := by omega
    subst this
    rw [List.take_length] at hil hRi
    have hkR : i ≤ R.length := by omega
    have c4 : (0 < R.length) = True := eq_true (by omega)
    have c5 : (i ≤ R.length) = True := eq_true hkR
    refine awp_plain 4 (by kernel_rfl) rfl (fun g5 hg5 => ?_)
    simp only [go_sem, hlj, decide_false]
    refine hK9 _ ?_
    refine awp_f rfl ?_
    refine awp_exit ?_
    refine hK6 _ ?_
    refine awp_seq_k (fun K14 hK14 => ?_)
    refine awp_ops (by kernel_rfl) rfl (fun g11 hg11 ops11 KR11 hops11 hKR11 => ?_)
    refine aops_eval 3 hops11 ?_
    simp only [go_sem, c4, c5, subLen, Nat.le_refl]
    refine aops_clear hops11 rfl rfl rfl rfl es47 ze78 rfl (by decide) ?_
    simp only [go_sem]
    first | refine ⟨by omega, ?_⟩ | skip
    generalize hZ : List.take i (List.map encEd R) ++ List.replicate (R.length - i) (D.agg [D.val (Value.bool false), D.val (Value.string ByteArray.empty), D.val (Value.int IntKind.i64 0), D.val (Value.bool false), D.val (Value.string ByteArray.empty), D.val (Value.int IntKind.i64 0), D.val (Value.bool false)]) ++ List.drop (i + (R.length - i)) (List.map encEd R) = Z
    have hZl : Z.length = R.length := by rw [← hZ]; simp; omega
    have hZt : Z.take i = (l.filter nf).map encEd := by
     rw [← hZ, List.append_assoc, List.take_append_of_le_length (by simp; omega), List.take_take, Nat.min_self, ← List.map_take, hRi]
    have hZr : lenRows 7 Z := fun r hr => by
     rw [← hZ] at hr
     rcases List.mem_append.1 hr with hr | hr
     ·rcases List.mem_append.1 hr with hr | hr
      ·exact lenRowsEd R r (List.mem_of_mem_take hr)
      ·rw [(List.mem_replicate.1 hr).2]; rfl
     ·exact lenRowsEd R r (List.mem_of_mem_drop hr)
    have c6 : (0 < Z.length) = True := eq_true (by omega)
    have c7 : (i ≤ Z.length) = True := eq_true (by omega)
    have c8 : ((i : Int) - 0).toNat = i := by omega
    have c9 : (0 + i ≤ Z.length) = True := eq_true (by omega)
    refine aops_last 0 hops11 ?_
    simp only [go_sem]
    refine hKR11 _ ?_
    refine hK14 _ ?_
    refine awp_seq_k (fun K15 hK15 => ?_)
    refine awp_plain 4 (by kernel_rfl) rfl (fun g12 hg12 => ?_)
    simp only [go_sem, c6, c7, c8, Int.natCast_nonneg, Int.le_refl]
    refine hK15 _ ?_
    refine awp_ret ?_
    refine ret_frz n ?_
    simp only [go_sem, c7, hZr, hZt]
    refine ends_ev rfl ?_
    simp only [go_sem]
    exact Co.refl _
end Go.Proofs.T
namespace Go.Proofs.T
open Go Go.Ab Go.RowKit
noncomputable abbrev edP (p : Prg) : List Ed := setE (prE p)
theorem edP_len {p : Prg} (h : (prE p).length ≤ 1000000) : (edP p).length ≤ 1000000 := Nat.le_trans (setE_len _) h
theorem exDel_calls (l : List Ed) (hl : l.length ≤ 1000000) (e : Ed) (g d : Nat) : ACalls E 41 [encEd e, .eptr [slEd l]] [] g d (dB (!exB l e)) [] := by
 refine acalls_of_awp (fn := Tryz.f41) (N := 8) Tryz.call41 Tryz.func41 rfl rfl (by simp) ?_
 simp only [go_sem]
 refine awp_seq_k (fun K1 hK1 => ?_)
 refine awp_plain 2 (by kernel_rfl) rfl (fun g0 hg0 => ?_)
 simp only [go_sem]
 refine hK1 _ ?_
 refine awp_seq_k (fun K2 hK2 => ?_)
 refine awp_ops (by kernel_rfl) rfl (fun g1 hg1 ops1 KR1 hops1 hKR1 => ?_)
 refine aops_eval 2 hops1 ?_
 simp only [go_sem]
 refine aops_pure hops1 rfl rfl rfl (expansive_calls l hl e _ _) (CoL.refl _) ?_
 refine aops_last 2 hops1 ?_
 simp only [go_sem]
 refine hKR1 _ ?_
 refine hK2 _ ?_
 refine awp_ret ?_
 refine ends_ev rfl ?_
 simp only [go_sem]
 exact Co.refl _
set_option maxRecDepth 100000 in
theorem nExp_calls (p : Prg) (hp : smPr p) (hE : (prE p).length ≤ 1000000) (g d : Nat) : ACalls E 21 [encPr p] [] g d (slEd (exL (edP p))) [] := by
 have he : ∀ g d, ACalls E 31 [encPr p] [] g d (slEd (edP p)) [] := fun g d => edges_calls p hp hE g d
 have hl := edP_len hE
 have hres : exL (edP p) = (edP p).filter fun x => !(fun e => !exB (edP p) e) x := by
  unfold exL
  congr 1
  funext x
  simp
 rw [hres]
 generalize edP p = L at *
 refine acalls_of_awp (fn := Tryz.f21) (N := 10) Tryz.call21 Tryz.func21 rfl rfl (by simp) ?_
 simp only [go_sem]
 refine awp_seq_k (fun K1 hK1 => ?_)
 refine awp_plain 2 (by kernel_rfl) rfl (fun g0 hg0 => ?_)
 simp only [go_sem]
 refine hK1 _ ?_
 refine awp_seq_k (fun K2 hK2 => ?_)
 refine awp_ops (by kernel_rfl) rfl (fun g1 hg1 ops1 KR1 hops1 hKR1 => ?_)
 refine aops_eval 1 hops1 ?_
 simp only [go_sem]
 refine aops_pure hops1 rfl rfl rfl (he _ _) (CoL.refl _) ?_
 refine aops_last 2 hops1 ?_
 simp only [go_sem]
 refine hKR1 _ ?_
 refine hK2 _ ?_
 refine awp_seq_k (fun K3 hK3 => ?_)
 refine awp_still ⟨g1, 3, 0⟩ ?_
 simp only [go_sem]
 refine awp_ops (by kernel_rfl) rfl (fun g2 hg2 ops2 KR2 hops2 hKR2 => ?_)
 refine aops_eval 1 hops2 ?_
 simp only [go_sem]
 refine aops_pure hops2 rfl rfl rfl (cloneEd_calls L hl _ _) (CoL.refl _) ?_
 refine aops_eval 1 hops2 ?_
 simp only [go_sem]
 refine aops_call hops2 rfl rfl rfl (deleteFunc_calls (f := fun e => !exB L e) (fn := 41) (cap := [.eptr [slEd L]]) (fun e g d => exDel_calls L hl e g d) L hl g2 7 _ _) (CoL.refl _) (by simp [go_sem]) ?_
 refine aops_last 1 hops2 ?_
 simp only [go_sem]
 refine hKR2 _ ?_
 refine hK3 _ ?_
 refine awp_ret ?_
 refine ends_ev rfl ?_
 simp only [go_sem]
 exact Co.refl _
theorem nIs_calls (p : Prg) (hp : smPr p) (hE : (prE p).length ≤ 1000000) (g d : Nat) : ACalls E 18 [encPr p] [] g d (dB (decide ((exL (edP p)).length = 0))) [] := by
 have he := fun g d => nExp_calls p hp hE g d
 generalize exL (edP p) = L at *
 refine acalls_of_awp (fn := Tryz.f18) (N := 7) Tryz.call18 Tryz.func18 rfl rfl (by simp) ?_
 simp only [go_sem]
 refine awp_seq_k (fun K1 hK1 => ?_)
 refine awp_plain 2 (by kernel_rfl) rfl (fun g0 hg0 => ?_)
 simp only [go_sem]
 refine hK1 _ ?_
 refine awp_seq_k (fun K2 hK2 => ?_)
 refine awp_ops (by kernel_rfl) rfl (fun g1 hg1 ops1 KR1 hops1 hKR1 => ?_)
 refine aops_eval 1 hops1 ?_
 simp only [go_sem]
 refine aops_pure hops1 rfl rfl rfl (he _ _) (CoL.refl _) ?_
 refine aops_last 3 hops1 ?_
 simp only [go_sem]
 refine hKR1 _ ?_
 refine hK2 _ ?_
 refine awp_ret ?_
 refine ends_ev rfl ?_
 simp only [go_sem]
 exact Co.of_eq (by simp [dB])
noncomputable def badAt (bad : List Ed) : List Dec → Option Int
 | [] => none
 | d :: r => if (stE d).any (fun e => bad.any (eqE e)) = true then some d.pos else badAt bad r
theorem badAt_drop (bad : List Ed) (l : List Dec) {k : Nat} (h : k < l.length) : badAt bad (l.drop k) = if (stE l[k]).any (fun e => bad.any (eqE e)) = true then some l[k].pos else badAt bad (l.drop (k + 1)) := by
 rw [List.drop_eq_getElem_cons h]
 rfl
def errA (o : Option Int) : D := match o with | some a => .iface 97 (.agg [dI 5, dI a]) | none => .val .nilIface
theorem checkIs_calls (bad : List Ed) (hl : bad.length ≤ 1000000) (e : Ed) (g d : Nat) : ACalls E 43 [encEd e, .eptr [slEd bad]] [] g d (dB (bad.any (eqE e))) [] := by
 refine acalls_of_awp (fn := Tryz.f43) (N := 7) Tryz.call43 Tryz.func43 rfl rfl (by simp) ?_
 simp only [go_sem]
 refine awp_seq_k (fun K1 hK1 => ?_)
 refine awp_plain 2 (by kernel_rfl) rfl (fun g0 hg0 => ?_)
 simp only [go_sem]
 refine hK1 _ ?_
 refine awp_seq_k (fun K2 hK2 => ?_)
 refine awp_ops (by kernel_rfl) rfl (fun g1 hg1 ops1 KR1 hops1 hKR1 => ?_)
 refine aops_eval 2 hops1 ?_
 simp only [go_sem]
 refine aops_pure hops1 rfl rfl rfl (contains_calls bad hl e _ _) (CoL.refl _) ?_
 refine aops_last 1 hops1 ?_
 simp only [go_sem]
 refine hKR1 _ ?_
 refine hK2 _ ?_
 refine awp_ret ?_
 refine ends_ev rfl ?_
 simp only [go_sem]
 exact Co.refl _
theorem newF_calls (c a : Int) (g d : Nat) : ACalls E 47 [dI c, dI a] [] g d (.iface 97 (.agg [dI c, dI a])) [] := by
 refine acalls_of_awp (fn := Tryz.f47) (N := 9) Tryz.call47 Tryz.func47 rfl rfl (by simp) ?_
 simp only [go_sem]
 refine awp_seq_k (fun K1 hK1 => ?_)
 refine awp_plain 1 (by kernel_rfl) rfl (fun g0 hg0 => ?_)
 simp only [go_sem]
 refine hK1 _ ?_
 refine awp_seq_k (fun K2 hK2 => ?_)
 refine awp_plain 5 (by kernel_rfl) rfl (fun g1 hg1 => ?_)
 simp only [go_sem]
 refine hK2 _ ?_
 refine awp_ret ?_
 refine ends_ev rfl ?_
 simp only [go_sem]
 exact Co.refl _
set_option maxHeartbeats 1000000 in
set_option maxRecDepth 100000 in
theorem nCheck_calls (p : Prg) (hp : smPr p) (hE : (prE p).length ≤ 1000000) (g d : Nat) : ACalls E 22 [encPr p] [] g d (errA (if (exL (edP p)).length = 0 then none else badAt (exL (edP p)) p.decls)) [] := by
 have he := fun g d => nExp_calls p hp hE g d
 have hl := Nat.le_trans (exL_len (edP p)) (edP_len hE)
 have hdc := fun k : Nat => flowDecl_calls p hp (k : Int) hE
 have k2 := hp.1.2
 have k1 := hp.1.1
 generalize exL (edP p) = B at *
 refine acalls_of_awp (fn := Tryz.f22) (N := 30) Tryz.call22 Tryz.func22 rfl rfl (by simp) ?_
 simp only [go_sem]
 refine awp_seq_k (fun K1 hK1 => ?_)
 refine awp_plain 2 (by kernel_rfl) rfl (fun g0 hg0 => ?_)
 simp only [go_sem]
 refine hK1 _ ?_
 refine awp_seq_k (fun K2 hK2 => ?_)
 refine awp_ops (by kernel_rfl) rfl (fun g1 hg1 ops1 KR1 hops1 hKR1 => ?_)
 refine aops_eval 1 hops1 ?_
 simp only [go_sem]
 refine aops_pure hops1 rfl rfl rfl (he _ _) (CoL.refl _) ?_
 refine aops_last 2 hops1 ?_
 simp only [go_sem]
 refine hKR1 _ ?_
 refine hK2 _ ?_
 refine awp_seq_k (fun K3 hK3 => ?_)
 refine awp_seq_k (fun K4 hK4 => ?_)
 by_cases h0 : B.length = 0
 ·have h0' : (B.length : Int) = 0 := by omega
  refine awp_plain 3 (by kernel_rfl) rfl (fun g2 hg2 => ?_)
  simp only [go_sem, h0', decide_true]
  refine hK4 _ ?_
  refine awp_t rfl ?_
  refine awp_seq_k (fun K5 hK5 => ?_)
  refine awp_plain 1 (by kernel_rfl) rfl (fun g3 hg3 => ?_)
  simp only [go_sem]
  refine hK5 _ ?_
  refine awp_ret ?_
  refine ends_ev rfl ?_
  simp only [go_sem]
  exact Co.of_eq (by rw [if_pos h0]; rfl)
 ·have h0' : ¬ (B.length : Int) = 0 := by omega
  refine awp_plain 3 (by kernel_rfl) rfl (fun g2 hg2 => ?_)
  simp only [go_sem, h0', decide_false]
  refine hK4 _ ?_
  refine awp_f rfl ?_
  refine awp_skip ?_
  refine hK3 _ ?_
  refine awp_seq_k (fun K6 hK6 => ?_)
  refine awp_still ⟨g1, 3, 0⟩ ?_
  simp only [go_sem]
  refine awp_plain 2 (by kernel_rfl) rfl (fun g4 hg4 => ?_)
  simp only [go_sem]
  refine hK6 _ ?_
  refine awp_seq_k (fun K7 hK7 => ?_)
  refine awp_seq_k (fun K8 hK8 => ?_)
  refine awp_plain 4 (by kernel_rfl) rfl (fun g5 hg5 => ?_)
  simp only [go_sem]
  refine hK8 _ ?_
  refine awp_block ?_
  refine awp_loop (fun m st => ∃ k, k ≤ p.decls.length ∧ m = p.decls.length - k ∧ badAt B (p.decls.drop k) = badAt B p.decls ∧ Le { env := [(1, .ptr ⟨g0, 1, 0⟩ 0), (4, .func (.func 43) [] [.eptr [slEd B]]), (14, slDe p.decls), (15, dN p.decls.length), (16, dN k)], σ := [(⟨g0, 1, 0⟩, .box 30 (prC p))] } st) p.decls.length ?_ ?_
  ·refine ⟨0, Nat.zero_le _, rfl, rfl, le_of ?_⟩
   simp only [go_sem]
   all_goals first | done | exact rfl | exact ⟨rfl, rfl⟩ | trivial | omega
  ·rintro m st ⟨k, hk, rfl, hb, hle⟩
   refine awp_keep hle ?_
   clear hle
   refine awp_seq_k (fun K9 hK9 => ?_)
   by_cases hlt : k < p.decls.length
   ·have hgm := getM (f := encDe) hlt
    have hbd := badAt_drop B p.decls hlt
    rw [hb] at hbd
    have c1 := hdc k
    rw [dif_pos ⟨by omega, by omega⟩] at c1
    simp only [Int.toNat_natCast] at c1
    change ∀ g r, ACalls E _ _ _ g r (slEd (stE p.decls[k])) _ at c1
    have hsl : (stE p.decls[k]).length ≤ 1000000 := by
     have h1 := setE_len (deE p.decls[k])
     have h2 := deE_le (p := p) (List.getElem_mem hlt)
     change (setE (deE p.decls[k])).length ≤ _
     omega
    generalize p.decls[k] = X at *
    refine awp_plain 1 (by kernel_rfl) rfl (fun g6 hg6 => ?_)
    simp only [go_sem, hlt, decide_true]
    refine hK9 _ ?_
    refine awp_seq_k (fun K10 hK10 => ?_)
    refine awp_t rfl ?_
    refine awp_skip ?_
    refine hK10 _ ?_
    refine awp_seq_k (fun K11 hK11 => ?_)
    refine awp_block ?_
    refine awp_seq_k (fun K12 hK12 => ?_)
    refine awp_plain 6 (by kernel_rfl) rfl (fun g7 hg7 => ?_)
    simp only [go_sem, hgm]
    refine hK12 _ ?_
    refine awp_seq_k (fun K13 hK13 => ?_)
    have hn7_g0 : g7 ≠ g0 := fresh_g hg7 1 0 (by simp [go_sem])
    refine awp_ops (by kernel_rfl) rfl (fun g8 hg8 ops8 KR8 hops8 hKR8 => ?_)
    refine aops_eval 2 hops8 ?_
    simp only [go_sem, hn7_g0]
    refine aops_pure hops8 rfl rfl rfl (c1 _ _) (CoL.refl _) ?_
    refine aops_eval 1 hops8 ?_
    simp only [go_sem]
    refine aops_pure hops8 rfl rfl rfl (containsFunc_calls (f := fun e => B.any (eqE e)) (fn := 43) (cap := [.eptr [slEd B]]) (fun e g d => checkIs_calls B hl e g d) (stE X) hsl _ _) (CoL.refl _) ?_
    refine aops_last 0 hops8 ?_
    simp only [go_sem]
    refine hKR8 _ ?_
    refine hK13 _ ?_
    cases hX : (stE X).any (fun e => B.any (eqE e)) with
    | true =>
     rw [if_pos hX] at hbd
     refine awp_t rfl ?_
     refine awp_seq_k (fun K14 hK14 => ?_)
     refine awp_ops (by kernel_rfl) rfl (fun g9 hg9 ops9 KR9 hops9 hKR9 => ?_)
     refine aops_eval 2 hops9 ?_
     simp only [go_sem, Ne.symm hn7_g0]
     refine aops_pure hops9 rfl rfl rfl (newF_calls 5 X.pos _ _) (CoL.refl _) ?_
     refine aops_last 1 hops9 ?_
     simp only [go_sem]
     refine hKR9 _ ?_
     refine hK14 _ ?_
     refine awp_ret ?_
     refine ends_ev rfl ?_
     simp only [go_sem]
     exact Co.of_eq (by rw [if_neg h0, hbd]; rfl)
    | false =>
     rw [if_neg (by rw [hX]; exact Bool.false_ne_true)] at hbd
     refine awp_f rfl ?_
     refine awp_skip ?_
     refine hK11 _ ?_
     refine awp_plain 2 (by kernel_rfl) rfl (fun g10 hg10 => ?_)
     simp only [go_sem]
     try simp (disch := omega) only [wrapN]
     refine ⟨_, ?_, k + 1, hlt, rfl, hbd.symm, le_of ?_⟩
     ·omega
     simp only [go_sem, hn7_g0]
     all_goals first | done | exact rfl | exact ⟨rfl, rfl⟩ | trivial | omega
   ·have : k = p.decls.length := by omega
    subst this
    rw [List.drop_length] at hb
    refine awp_plain 1 (by kernel_rfl) rfl (fun g6 hg6 => ?_)
    simp only [go_sem, hlt, decide_false]
    refine hK9 _ ?_
    refine awp_seq_k (fun K15 hK15 => ?_)
    refine awp_f rfl ?_
    refine awp_exit ?_
    refine hK7 _ ?_
    refine awp_seq_k (fun K16 hK16 => ?_)
    refine awp_plain 1 (by kernel_rfl) rfl (fun g11 hg11 => ?_)
    simp only [go_sem]
    refine hK16 _ ?_
    refine awp_ret ?_
    refine ends_ev rfl ?_
    simp only [go_sem]
    exact Co.of_eq (by rw [if_neg h0, ← hb]; rfl)
theorem refEdP {p : Prg} (hp : smPr p) (hr : rightPr p = true) (hw : wN (prTys p) ≤ 600) : ∀ g d, ACalls E 11 [encPr p] [] g d (slEd (edP p)) [] := by
 have c2 := refEdges_calls p hp (by rw [rpE_eq hr]; exact prE_cnt hw) (body_le hw)
 rw [rpE_eq hr] at c2
 exact c2
theorem refIs_calls (p : Prg) (hp : smPr p) (hr : rightPr p = true) (hw : wN (prTys p) ≤ 600) (g d : Nat) : ACalls E 19 [encPr p] [] g d (dB (decide ((exL (edP p)).length = 0))) [] := by
 have he := refEdP hp hr hw
 have hl := edP_len (prE_cnt hw)
 have hx := fun g d => refExpansive_calls (edP p) hl g d
 generalize exL (edP p) = B at *
 refine acalls_of_awp (fn := Tryz.f19) (N := 8) Tryz.call19 Tryz.func19 rfl rfl (by simp) ?_
 simp only [go_sem]
 refine awp_seq_k (fun K1 hK1 => ?_)
 refine awp_plain 2 (by kernel_rfl) rfl (fun g0 hg0 => ?_)
 simp only [go_sem]
 refine hK1 _ ?_
 refine awp_seq_k (fun K2 hK2 => ?_)
 refine awp_ops (by kernel_rfl) rfl (fun g1 hg1 ops1 KR1 hops1 hKR1 => ?_)
 refine aops_eval 1 hops1 ?_
 simp only [go_sem]
 refine aops_pure hops1 rfl rfl rfl (he _ _) (CoL.refl _) ?_
 refine aops_pure hops1 rfl rfl rfl (hx _ _) (CoL.refl _) ?_
 refine aops_last 3 hops1 ?_
 simp only [go_sem]
 refine hKR1 _ ?_
 refine hK2 _ ?_
 refine awp_ret ?_
 refine ends_ev rfl ?_
 simp only [go_sem]
 exact Co.of_eq (by simp [dB])
end Go.Proofs.T
namespace Go.Proofs.T
open Go Go.Ab Go.RowKit
end Go.Proofs.T
namespace Go.Proofs.T
open Go Go.Ab Go.RowKit Go.Extern.Stop Go.Stop Go.Extern
theorem unwrapF_calls (c a : Int) (g d : Nat) : ACalls E 178 [.agg [dI c, dI a]] [] g d (.iface 56 (dI c)) [] := by
 refine acalls_of_awp (fn := Tryz.f178) (N := 6) Tryz.call178 Tryz.func178 rfl rfl (by simp) ?_
 simp only [go_sem]
 refine awp_seq_k (fun K1 hK1 => ?_)
 refine awp_plain 2 (by kernel_rfl) rfl (fun g0 hg0 => ?_)
 simp only [go_sem]
 refine hK1 _ ?_
 refine awp_seq_k (fun K2 hK2 => ?_)
 refine awp_plain 4 (by kernel_rfl) rfl (fun g1 hg1 => ?_)
 simp only [go_sem]
 refine hK2 _ ?_
 refine awp_ret ?_
 refine ends_ev rfl ?_
 simp only [go_sem]
 exact Co.refl _
def hd (t : TypeId) : Value := .pointer (some ⟨1, t, none⟩)
def rt (t : TypeId) : Value := .iface 172 (.agg #[hd t])
theorem typeOf56 (v : Value) (w : World) : (ReflectliteType.typeOf #[.iface 56 v]).run Tryz.prog w = .ok (rt 56) w := by kernel_rfl
theorem typeOf97 (v : Value) (w : World) : (ReflectliteType.typeOf #[.iface 97 v]).run Tryz.prog w = .ok (rt 97) w := by kernel_rfl
theorem asg56_56 (w : World) : (ReflectliteType.relation "AssignableTo" ReflectliteType.assignableTo #[.agg #[hd 56], rt 56]).run Tryz.prog w = .ok (.bool true) w := by kernel_rfl
theorem asg97_56 (w : World) : (ReflectliteType.relation "AssignableTo" ReflectliteType.assignableTo #[.agg #[hd 97], rt 56]).run Tryz.prog w = .ok (.bool false) w := by kernel_rfl
theorem mKind (h : Value) (w : World) : (method (Tryz.prog.types.size + Made.depth) 172 (.agg #[h]) "Kind").run Tryz.prog w = .ok (173, h) w := by kernel_rfl
theorem mElem (h : Value) (w : World) : (method (Tryz.prog.types.size + Made.depth) 172 (.agg #[h]) "Elem").run Tryz.prog w = .ok (185, .agg #[h]) w := by kernel_rfl
theorem mImpl (h : Value) (w : World) : (method (Tryz.prog.types.size + Made.depth) 172 (.agg #[h]) "Implements").run Tryz.prog w = .ok (186, .agg #[h]) w := by kernel_rfl
theorem mAsg (h : Value) (w : World) : (method (Tryz.prog.types.size + Made.depth) 172 (.agg #[h]) "AssignableTo").run Tryz.prog w = .ok (183, .agg #[h]) w := by kernel_rfl
theorem u97 (v : Value) (w : World) : (method (Tryz.prog.types.size + Made.depth) 97 v "Unwrap").run Tryz.prog w = .ok (178, v) w := by kernel_rfl
theorem elem95 (w : World) : (ReflectliteType.method ReflectliteType.elem #[.agg #[hd 95]]).run Tryz.prog w = .ok (rt 56) w := by kernel_rfl
theorem impl56 (w : World) : (ReflectliteType.relation "Implements" ReflectliteType.implements_ #[.agg #[hd 56], rt 54]).run Tryz.prog w = .ok (.bool true) w := by kernel_rfl
theorem noAs97 (v : Value) (w : World) : (Instr.typeAssert (.iface 97 v) 54 177 true).run Tryz.prog w = .ok (.tuple #[.nilIface, .bool false]) w :=
 run_typeAssert_lacksB Tryz.underlying177 (by kernel_rfl) (by kernel_rfl) v 54 w
theorem hasUn97 (v : Value) (w : World) : (Instr.typeAssert (.iface 97 v) 54 180 true).run Tryz.prog w = .ok (.tuple #[.iface 97 v, .bool true]) w :=
 run_typeAssert_hasB Tryz.underlying180 (by kernel_rfl) v 54 w
theorem valOf95 (t : Addr) (w : World) : (ReflectliteValue.unpack (.iface 95 (.pointer (some t)))).run Tryz.prog w
  = .ok (.agg #[hd 95, .pointer (some ⟨w.heap.size, 0, none⟩), .int .u64 150]) (w.alloc (.cells #[.pointer (some t)] 95)) := by kernel_rfl
theorem valOf56 (c : Int) (w : World) : (ReflectliteValue.unpack (.iface 56 (.int .i64 c))).run Tryz.prog w
  = .ok (.agg #[hd 56, .pointer (some ⟨w.heap.size, 0, none⟩), .int .u64 130]) (w.alloc (.cells #[.int .i64 c] 56)) := by kernel_rfl
theorem vs_one {G : Gh} {w : World} {vs : Array Value} {d : D} (h : Vs G w vs [d]) : ∃ v, vs = #[v] ∧ V G w v d := by
 have hs : vs.size = 1 := h.1
 refine ⟨vs[0], Array.ext (by simp [hs]) fun i h1 h2 => ?_, h.2 0 _ _ (by simp [hs]) rfl⟩
 have : i = 0 := by simp at h2; omega
 subst this
 rfl
theorem vs_two {G : Gh} {w : World} {vs : Array Value} {d d' : D} (h : Vs G w vs [d, d']) : ∃ v v', vs = #[v, v'] ∧ V G w v d ∧ V G w v' d' := by
 have hs : vs.size = 2 := h.1
 refine ⟨vs[0], vs[1], Array.ext (by simp [hs]) fun i h1 h2 => ?_, h.2 0 _ _ (by simp [hs]) rfl, h.2 1 _ _ (by simp [hs]) rfl⟩
 match i with
 | 0 => rfl
 | 1 => rfl
 | n + 2 => exact absurd h2 (by simp)
theorem V.agg1 {G : Gh} {w : World} {v : Value} {x : Value} (h : V G w v (.agg [.val x])) : v = .agg #[x] := by
 cases h with
 | agg h1 h2 =>
  rename_i cs
  have hs : cs.size = 1 := h1
  congr 1
  refine Array.ext (by simp [hs]) fun i hi h3 => ?_
  have : i = 0 := by simp at h3; omega
  subst this
  exact V.of_val (h2 0 _ _ (by simp [hs]) rfl)
def rtD (t : TypeId) : D := .iface 172 (.agg [.val (hd t)])
theorem ofRt {G : Gh} {w : World} {v : Value} {t : TypeId} (h : V G w v (rtD t)) : v = rt t := by
 unfold rtD at h
 cases h with
 | iface h1 => rw [V.agg1 h1]; rfl
theorem rtV (G : Gh) (w : World) (t : TypeId) : V G w (rt t) (rtD t) := .iface (.agg rfl fun i c d hc hd => by
 match i, hc, hd with
 | 0, hc, hd => cases hc; cases hd; exact .val _)
theorem typeOf_calls {t : TypeId} (h : ∀ v w, (ReflectliteType.typeOf #[.iface t v]).run Tryz.prog w = .ok (rt t) w) (y : D) (g d : Nat) : XCalls E 102 [.iface t y] [] g d (rtD t) [] := by
 have hx := @run_callFunc_extern Tryz.prog 102 _ ReflectliteType.typeOf Tryz.func102 (by kernel_rfl) (by kernel_rfl) (by kernel_rfl) (by kernel_rfl)
 refine xcalls_pure fun w0 hA G w vs hw hvs => ?_
 obtain ⟨v, rfl, hv⟩ := vs_one hvs
 cases hv with
 | iface h1 => exact ⟨rt t, by rw [E_P, hx, h]; rfl, rtV G w t⟩
theorem asg_calls {t u : TypeId} {b : Bool} (h : ∀ w, (ReflectliteType.relation "AssignableTo" ReflectliteType.assignableTo #[.agg #[hd t], rt u]).run Tryz.prog w = .ok (.bool b) w) (g d : Nat) :
  XCalls E 183 [.agg [.val (hd t)], rtD u] [] g d (dB b) [] := by
 have hx := @run_callFunc_extern Tryz.prog 183 _ (ReflectliteType.relation "AssignableTo" ReflectliteType.assignableTo) Tryz.func183 (by kernel_rfl) (by kernel_rfl) (by kernel_rfl) (by kernel_rfl)
 refine xcalls_pure fun w0 hA G w vs hw hvs => ?_
 obtain ⟨v, v', rfl, hv, hv'⟩ := vs_two hvs
 rw [V.agg1 hv, ofRt hv']
 exact ⟨.bool b, by rw [E_P, hx, h]; rfl, .val _⟩
theorem recvAsg (t : TypeId) : Recv Tryz.prog 172 "AssignableTo" (.agg [.val (hd t)]) 183 (.agg [.val (hd t)]) := fun _ w v hv => ⟨v, by rw [V.agg1 hv]; exact mAsg _ w, hv⟩
theorem rlm (z : Sem Value) (f : TypeId → Addr → Nat → Nat → Sem Value) (v : Value) :
  ReflectliteValue.method z f #[v] = (do match ← ReflectliteValue.parts v with | none => z | some (t, a, fl) => f t a fl (fl % 32)) := rfl
theorem parts95 (a : Addr) (w : World) : (ReflectliteValue.parts (.agg #[hd 95, .pointer (some a), .int .u64 150])).run Tryz.prog w = .ok (some (95, a, 150)) w := by kernel_rfl
theorem type95 (a : Addr) (w : World) : (ReflectliteValue.methodAny (ReflectliteValue.valueError "reflectlite.Value.Type" 0) (fun t _ _ _ => ReflectliteType.toType t) #[.agg #[hd 95, .pointer (some a), .int .u64 150]]).run Tryz.prog w = .ok (rt 95) w := by kernel_rfl
theorem kind95 (w : World) : ((ReflectliteType.abiMethod fun t => Functor.map (fun a : Nat => Value.int IntKind.u8 (a : Int)) (Rtype.kind t)) #[hd 95]).run Tryz.prog w = .ok (.int .u8 22) w := by kernel_rfl
theorem isNil95 (a q : Addr) (W : World) (ha : W.cell? a = some (.pointer (some q))) :
  (ReflectliteValue.method (ReflectliteValue.valueError "reflectlite.Value.IsNil" 0) ReflectliteValue.isNil #[.agg #[hd 95, .pointer (some a), .int .u64 150]]).run Tryz.prog W = .ok (.bool false) W := by
 rw [rlm]
 simp only [Sem.run_bind, parts95, Result.andThen]
 simp [ReflectliteValue.isNil, loadVar, isAgg, underlying, Tryz.underlying95, ha, Result.andThen]
theorem elemOf95 (w : World) : (Rtype.elem? 95).run Tryz.prog w = .ok (some 56) w := by kernel_rfl
theorem rls (v x : Value) : ReflectliteValue.set #[v, x] = (do
  let (some (dst, a, fl), some (src, b, _)) := (← ReflectliteValue.parts v, ← ReflectliteValue.parts x)
   | unsupported (.noEntry "extern/(internal/reflectlite.Value).Set.zeroValue")
  if fl / ReflectliteValue.flagAddr % 2 == 0 then unsupported (.noEntry "extern/(internal/reflectlite.Value).Set.unaddressable")
  let val ← loadVar src b
  if ← Rtype.directlyAssignable dst src then storeVar dst a val
  else if ← Rtype.implements dst src then
   if (← Rtype.kind src) == 20 then
    match val with
    | .nilIface => unsupported (.noEntry "extern/reflectlite: a nil value of one interface type handed on as a value of another")
    | _ => storeVar dst a val
   else storeVar dst a (.iface src val)
  else panicString ("reflectlite.Set: value of type " ++ (← Rtype.spelt src) ++ " is not assignable to type " ++ (← Rtype.spelt dst))
  pure (.tuple #[])) := rfl
theorem mk56 (q : Addr) (w : World) : (ReflectliteValue.mk 56 q ReflectliteValue.flagAddr).run Tryz.prog w = .ok (.agg #[hd 56, .pointer (some q), .int .u64 386]) w := by kernel_rfl
theorem elemV95 (a q : Addr) (W : World) (ha : W.cell? a = some (.pointer (some q))) :
  (ReflectliteValue.method (ReflectliteValue.valueError "reflectlite.Value.Elem" 0) ReflectliteValue.elem #[.agg #[hd 95, .pointer (some a), .int .u64 150]]).run Tryz.prog W
   = .ok (.agg #[hd 56, .pointer (some q), .int .u64 386]) W := by
 rw [rlm]
 simp only [Sem.run_bind, parts95, Result.andThen]
 simp [ReflectliteValue.elem, loadVar, isAgg, underlying, Tryz.underlying95, ha, Result.andThen, elemOf95, mk56]
theorem parts56a (a : Addr) (w : World) : (ReflectliteValue.parts (.agg #[hd 56, .pointer (some a), .int .u64 386])).run Tryz.prog w = .ok (some (56, a, 386)) w := by kernel_rfl
theorem parts56 (a : Addr) (w : World) : (ReflectliteValue.parts (.agg #[hd 56, .pointer (some a), .int .u64 130])).run Tryz.prog w = .ok (some (56, a, 130)) w := by kernel_rfl
theorem direct56 (w : World) : (Rtype.directlyAssignable 56 56).run Tryz.prog w = .ok true w := by kernel_rfl
theorem set56 (ta b : Addr) (v : Value) (W : World) (hb : W.cell? b = some v) :
  (ReflectliteValue.set #[.agg #[hd 56, .pointer (some ta), .int .u64 386], .agg #[hd 56, .pointer (some b), .int .u64 130]]).run Tryz.prog W
   = ((storeVar 56 ta v).run Tryz.prog W).andThen fun _ w => .ok (.tuple #[]) w := by
 rw [rls]
 simp only [Sem.run_bind, parts56a, parts56, Result.andThen]
 simp [ReflectliteValue.flagAddr, loadVar, isAgg, underlying, Tryz.underlying56, hb, Result.andThen, direct56]
abbrev valD (t : TypeId) (n : Nm) (fl : Int) : D := .agg [.val (hd t), .ptr n 0, .val (.int .u64 fl)]
theorem valueOf_x (args : Array Value) (w : World) : (callFunc 70 args).run Tryz.prog w = (((fun args => ReflectliteValue.unpack (args.getD 0 (.tuple #[]))) args).run Tryz.prog w).andThen fun v w' => .ok (.value v) w' := @run_callFunc_extern Tryz.prog 70 _ (fun args => ReflectliteValue.unpack (args.getD 0 (.tuple #[]))) Tryz.func70 (by kernel_rfl) (by kernel_rfl) (by kernel_rfl) (by kernel_rfl) args w
theorem vType_x (args : Array Value) (w : World) : (callFunc 71 args).run Tryz.prog w = (((ReflectliteValue.methodAny (ReflectliteValue.valueError "reflectlite.Value.Type" 0) (fun t _ _ _ => ReflectliteType.toType t)) args).run Tryz.prog w).andThen fun v w' => .ok (.value v) w' := @run_callFunc_extern Tryz.prog 71 _ (ReflectliteValue.methodAny (ReflectliteValue.valueError "reflectlite.Value.Type" 0) (fun t _ _ _ => ReflectliteType.toType t)) Tryz.func71 (by kernel_rfl) (by kernel_rfl) (by kernel_rfl) (by kernel_rfl) args w
theorem vIsNil_x (args : Array Value) (w : World) : (callFunc 72 args).run Tryz.prog w = (((ReflectliteValue.method (ReflectliteValue.valueError "reflectlite.Value.IsNil" 0) ReflectliteValue.isNil) args).run Tryz.prog w).andThen fun v w' => .ok (.value v) w' := @run_callFunc_extern Tryz.prog 72 _ (ReflectliteValue.method (ReflectliteValue.valueError "reflectlite.Value.IsNil" 0) ReflectliteValue.isNil) Tryz.func72 (by kernel_rfl) (by kernel_rfl) (by kernel_rfl) (by kernel_rfl) args w
theorem vElem_x (args : Array Value) (w : World) : (callFunc 103 args).run Tryz.prog w = (((ReflectliteValue.method (ReflectliteValue.valueError "reflectlite.Value.Elem" 0) ReflectliteValue.elem) args).run Tryz.prog w).andThen fun v w' => .ok (.value v) w' := @run_callFunc_extern Tryz.prog 103 _ (ReflectliteValue.method (ReflectliteValue.valueError "reflectlite.Value.Elem" 0) ReflectliteValue.elem) Tryz.func103 (by kernel_rfl) (by kernel_rfl) (by kernel_rfl) (by kernel_rfl) args w
theorem vSet_x (args : Array Value) (w : World) : (callFunc 104 args).run Tryz.prog w = (((ReflectliteValue.set) args).run Tryz.prog w).andThen fun v w' => .ok (.value v) w' := @run_callFunc_extern Tryz.prog 104 _ (ReflectliteValue.set) Tryz.func104 (by kernel_rfl) (by kernel_rfl) (by kernel_rfl) (by kernel_rfl) args w
theorem rKind_x (args : Array Value) (w : World) : (callFunc 173 args).run Tryz.prog w = (((ReflectliteType.abiMethod fun t => do pure (.int .u8 (← Rtype.kind t))) args).run Tryz.prog w).andThen fun v w' => .ok (.value v) w' := @run_callFunc_extern Tryz.prog 173 _ (ReflectliteType.abiMethod fun t => do pure (.int .u8 (← Rtype.kind t))) Tryz.func173 (by kernel_rfl) (by kernel_rfl) (by kernel_rfl) (by kernel_rfl) args w
theorem rElem_x (args : Array Value) (w : World) : (callFunc 185 args).run Tryz.prog w = (((ReflectliteType.method ReflectliteType.elem) args).run Tryz.prog w).andThen fun v w' => .ok (.value v) w' := @run_callFunc_extern Tryz.prog 185 _ (ReflectliteType.method ReflectliteType.elem) Tryz.func185 (by kernel_rfl) (by kernel_rfl) (by kernel_rfl) (by kernel_rfl) args w
theorem rImpl_x (args : Array Value) (w : World) : (callFunc 186 args).run Tryz.prog w = (((ReflectliteType.relation "Implements" ReflectliteType.implements_) args).run Tryz.prog w).andThen fun v w' => .ok (.value v) w' := @run_callFunc_extern Tryz.prog 186 _ (ReflectliteType.relation "Implements" ReflectliteType.implements_) Tryz.func186 (by kernel_rfl) (by kernel_rfl) (by kernel_rfl) (by kernel_rfl) args w
theorem kind56 (w : World) : ((ReflectliteType.abiMethod fun t => Functor.map (fun a : Nat => Value.int IntKind.u8 (a : Int)) (Rtype.kind t)) #[hd 56]).run Tryz.prog w = .ok (.int .u8 2) w := by kernel_rfl
theorem kind_calls {t : TypeId} {k : Int} (h : ∀ w, ((ReflectliteType.abiMethod fun t => Functor.map (fun a : Nat => Value.int IntKind.u8 (a : Int)) (Rtype.kind t)) #[hd t]).run Tryz.prog w = .ok (.int .u8 k) w) (g d : Nat) :
  XCalls E 173 [.val (hd t)] [] g d (.val (.int .u8 k)) [] := by
 refine xcalls_pure fun w0 hA G w vs hw hvs => ?_
 obtain ⟨v, rfl, hv⟩ := vs_one hvs
 rw [V.of_val hv]
 refine ⟨.int .u8 k, ?_, .val _⟩
 rw [E_P, rKind_x]
 have := h w
 simp only [map_eq_pure_bind] at this
 rw [this]
 rfl
theorem recvKind (t : TypeId) : Recv Tryz.prog 172 "Kind" (.agg [.val (hd t)]) 173 (.val (hd t)) := fun _ w v hv => ⟨hd t, by rw [V.agg1 hv]; exact mKind _ w, .val _⟩
theorem recvElem (t : TypeId) : Recv Tryz.prog 172 "Elem" (.agg [.val (hd t)]) 185 (.agg [.val (hd t)]) := fun _ w v hv => ⟨v, by rw [V.agg1 hv]; exact mElem _ w, hv⟩
theorem recvImpl (t : TypeId) : Recv Tryz.prog 172 "Implements" (.agg [.val (hd t)]) 186 (.agg [.val (hd t)]) := fun _ w v hv => ⟨v, by rw [V.agg1 hv]; exact mImpl _ w, hv⟩
theorem elem_calls {t u : TypeId} (h : ∀ w, (ReflectliteType.method ReflectliteType.elem #[.agg #[hd t]]).run Tryz.prog w = .ok (rt u) w) (g d : Nat) :
  XCalls E 185 [.agg [.val (hd t)]] [] g d (rtD u) [] := by
 refine xcalls_pure fun w0 hA G w vs hw hvs => ?_
 obtain ⟨v, rfl, hv⟩ := vs_one hvs
 rw [V.agg1 hv]
 exact ⟨rt u, by rw [E_P, rElem_x, h]; rfl, rtV G w u⟩
theorem impl_calls {t u : TypeId} {b : Bool} (h : ∀ w, (ReflectliteType.relation "Implements" ReflectliteType.implements_ #[.agg #[hd t], rt u]).run Tryz.prog w = .ok (.bool b) w) (g d : Nat) :
  XCalls E 186 [.agg [.val (hd t)], rtD u] [] g d (dB b) [] := by
 refine xcalls_pure fun w0 hA G w vs hw hvs => ?_
 obtain ⟨v, v', rfl, hv, hv'⟩ := vs_two hvs
 rw [V.agg1 hv, ofRt hv']
 exact ⟨.bool b, by rw [E_P, rImpl_x, h]; rfl, .val _⟩
theorem valOfP95 (m : Nm) (g d : Nat) : XCalls E 70 [.iface 95 (.ptr m 0)] [] g d (valD 95 ⟨g, d, 0⟩ 150) [(⟨g, d, 0⟩, .box 95 [.ptr m 0])] := by
 refine xcalls_box fun w0 hA G w vs hw hvs => ?_
 obtain ⟨v, rfl, hv⟩ := vs_one hvs
 cases hv with
 | iface h1 =>
  cases h1 with
  | ptr hρ =>
   rename_i b
   refine ⟨#[.pointer (some ⟨b, 0, none⟩)], ?_, rfl, fun i c d hc hd => ?_⟩
   ·rw [E_P, valueOf_x]
    show ((ReflectliteValue.unpack (.iface 95 (.pointer (some ⟨b, 0, none⟩)))).run Tryz.prog w).andThen _ = _
    rw [valOf95]
    rfl
   ·match i, hc, hd with
    | 0, hc, hd => cases hc; cases hd; exact .ptr hρ
    | n + 1, hc, hd => simp at hd
theorem vType95 (n : Nm) (g d : Nat) : XCalls E 71 [valD 95 n 150] [] g d (rtD 95) [] := by
 refine xcalls_pure fun w0 hA G w vs hw hvs => ?_
 obtain ⟨v, rfl, hv⟩ := vs_one hvs
 obtain ⟨b, rfl, hρ⟩ := V.agg3 hv
 exact ⟨rt 95, by rw [E_P, vType_x, type95]; rfl, rtV G w 95⟩
theorem vIsNil95 (n m : Nm) (g d : Nat) : XCalls E 72 [valD 95 n 150] [(n, .box 95 [.ptr m 0])] g d (dB false) [(n, .box 95 [.ptr m 0])] := by
 refine xcalls_read (n := n) (t := 95) (cs := [.ptr m 0]) (by simp [Go.Ab.get]) fun w0 hA G w vs hw hvs b c hρ hh hc => ?_
 obtain ⟨v, rfl, hv⟩ := vs_one hvs
 obtain ⟨b', rfl, hρ'⟩ := V.agg3 hv
 rw [hρ] at hρ'
 cases hρ'
 have hs : c.size = 1 := hc.1
 have h0 := hc.2 0 c[0] _ (by simp [hs]) rfl
 generalize hx : c[0] = x at h0
 cases h0 with
 | ptr hq =>
  rename_i q
  have hcell : w.cell? ⟨b, 0, none⟩ = some (.pointer (some ⟨q, 0, none⟩)) := by
   simp [World.cell?, hh, hs, hx]
  exact ⟨.bool false, by rw [E_P, vIsNil_x, isNil95 _ _ _ hcell]; rfl, .val _⟩
theorem vElem95 (n m : Nm) (g d : Nat) : XCalls E 103 [valD 95 n 150] [(n, .box 95 [.ptr m 0])] g d (valD 56 m 386) [(n, .box 95 [.ptr m 0])] := by
 refine xcalls_read (n := n) (t := 95) (cs := [.ptr m 0]) (by simp [Go.Ab.get]) fun w0 hA G w vs hw hvs b c hρ hh hc => ?_
 obtain ⟨v, rfl, hv⟩ := vs_one hvs
 obtain ⟨b', rfl, hρ'⟩ := V.agg3 hv
 rw [hρ] at hρ'
 cases hρ'
 have hs : c.size = 1 := hc.1
 have h0 := hc.2 0 c[0] _ (by simp [hs]) rfl
 generalize hx : c[0] = x at h0
 cases h0 with
 | ptr hq =>
  rename_i q
  have hcell : w.cell? ⟨b, 0, none⟩ = some (.pointer (some ⟨q, 0, none⟩)) := by
   simp [World.cell?, hh, hs, hx]
  refine ⟨_, by rw [E_P, vElem_x, elemV95 _ _ _ hcell]; rfl, .agg rfl fun i c d hc hd => ?_⟩
  match i, hc, hd with
  | 0, hc, hd => cases hc; cases hd; exact .val _
  | 1, hc, hd => cases hc; cases hd; exact .ptr hq
  | 2, hc, hd => cases hc; cases hd; exact .val _
  | n + 3, hc, hd => simp at hd
theorem valOfC (x : Int) (g d : Nat) : XCalls E 70 [.iface 56 (dI x)] [] g d (valD 56 ⟨g, d, 0⟩ 130) [(⟨g, d, 0⟩, .box 56 [dI x])] := by
 refine xcalls_box fun w0 hA G w vs hw hvs => ?_
 obtain ⟨v, rfl, hv⟩ := vs_one hvs
 cases hv with
 | iface h1 =>
  rw [V.of_val h1]
  refine ⟨#[.int .i64 x], ?_, rfl, fun i c d hc hd => ?_⟩
  ·rw [E_P, valueOf_x]
   show ((ReflectliteValue.unpack (.iface 56 (.int .i64 x))).run Tryz.prog w).andThen _ = _
   rw [valOf56]
   rfl
  ·match i, hc, hd with
   | 0, hc, hd => cases hc; cases hd; exact .val _
   | n + 1, hc, hd => simp at hd
theorem arr1 {c : Array Value} (h : c.size = 1) : ∃ x, c = #[x] := ⟨c[0], Array.ext (by simp [h]) fun i h1 h2 => by
 have : i = 0 := by omega
 subst this; rfl⟩
theorem vSetC {m k : Nm} (hmk : m ≠ k) (o : D) (x : Int) (g d : Nat) : XCalls E 104 [valD 56 m 386, valD 56 k 130] [(m, .box 56 [o]), (k, .box 56 [dI x])] g d (.tup []) [(m, .box 56 [dI x]), (k, .box 56 [dI x])] := by
 refine xcalls_set (fun c => c.getD 0 undef) hmk rfl sz56 rfl (fun G w c hc => ?_) (fun a b c w hh hc => ?_)
 ·obtain ⟨v, rfl, hv⟩ := vs_one hc
  rw [show v = _ from V.of_val hv]
  rfl
 ·obtain ⟨x, rfl⟩ := arr1 hc
  rw [E_P, vSet_x, set56 _ _ x w (by simp [World.cell?, hh])]
  show Result.andThen (Result.andThen ((storeVar 56 ⟨a, 0, none⟩ x).run Tryz.prog w) _) _ = Result.andThen ((storeVar 56 ⟨a, 0, none⟩ x).run Tryz.prog w) _
  generalize (storeVar 56 ⟨a, 0, none⟩ x).run Tryz.prog w = r
  cases r <;> rfl
end Go.Proofs.T
