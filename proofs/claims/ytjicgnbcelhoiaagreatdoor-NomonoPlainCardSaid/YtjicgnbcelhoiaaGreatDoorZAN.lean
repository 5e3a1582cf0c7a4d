/- A part of the proof, under no conditions of its own: ZAN. -/
import Derived.Test.YtjicgnbcelhoiaaGreatDoorZAM
import Derived.Test.YtjicgnbcelhoiaaGreatDoorZAK
namespace Go.Proofs.T
open Go Go.Ab Go.RowKit
theorem foldTake {α β : Type} (f : β → α → β) (b : β) {l : List α} {k : Nat} (h : k < l.length) : (l.take (k + 1)).foldl f b = f ((l.take k).foldl f b) l[k] := by
 rw [List.take_add_one, List.getElem?_eq_getElem h, Option.toList_some, List.foldl_append]
 rfl
theorem flowNames_calls (l : List Formal) (hl : l.length ≤ 1000000) (g d : Nat) : ACalls E 89 [slFm l] [] g d (slS (l.map (·.name))) [] := by
 refine acalls_of_awp (fn := Tryz.f89) (N := 19) Tryz.call89 Tryz.func89 rfl rfl (by simp) ?_
 simp only [go_sem]
 refine awp_seq_k (fun K1 hK1 => ?_)
 refine awp_plain 1 (by kernel_rfl) rfl (fun g0 hg0 => ?_)
 simp only [go_sem]
 refine hK1 _ ?_
 refine awp_seq_k (fun K2 hK2 => ?_)
 refine awp_plain 1 (by kernel_rfl) rfl (fun g1 hg1 => ?_)
 simp only [go_sem]
 refine hK2 _ ?_
 refine awp_seq_k (fun K3 hK3 => ?_)
 refine awp_seq_k (fun K4 hK4 => ?_)
 refine awp_plain 3 (by kernel_rfl) rfl (fun g2 hg2 => ?_)
 simp only [go_sem]
 refine hK4 _ ?_
 refine awp_block ?_
 refine awp_nil 3 9 1 rfl fun gn hgn => ?_
 refine awp_loop (fun m s => ∃ k a i, k ≤ l.length ∧ m = l.length - k ∧
   Le { env := [(6, slFm l), (7, dN l.length), (8, dN k), (3, .own ⟨a, i, 0⟩ k)], σ := [(⟨a, i, 0⟩, .arr 9 1 ((l.take k).map fun f => encS f.name))] } s) l.length ?_ ?_
 ·refine ⟨0, gn, 0, Nat.zero_le _, rfl, le_of ?_⟩
  simp only [go_sem]
  trivial
 ·rintro m s ⟨k, a, i, hk, rfl, hle⟩
  refine awp_keep hle ?_
  clear hle
  by_cases h : k < l.length
  ·refine awp_seq_k (fun K5 hK5 => ?_)
   refine awp_plain 1 (by kernel_rfl) rfl (fun g3 hg3 => ?_)
   simp only [go_sem, h]
   refine hK5 _ ?_
   refine awp_seq_k (fun K6 hK6 => ?_)
   refine awp_t rfl ?_
   refine awp_skip ?_
   refine hK6 _ ?_
   refine awp_seq_k (fun K7 hK7 => ?_)
   refine awp_block ?_
   refine awp_seq_k (fun K8 hK8 => ?_)
   refine awp_plain 4 (by kernel_rfl) rfl (fun g4 hg4 => ?_)
   simp only [go_sem, getM h]
   refine hK8 _ ?_
   have hn4_a : g4 ≠ a := fresh_g hg4 i 0 (by simp [go_sem])
   refine awp_ops (by kernel_rfl) rfl (fun g5 hg5 ops5 KR5 hops5 hKR5 => ?_)
   refine aops_eval 4 hops5 ?_
   simp only [go_sem, Ne.symm hn4_a]
   refine aops_app hops5 rfl rfl rfl rfl rfl es67 sz9 by9 ze9 rfl (by decide) ?_
   simp only [go_sem, List.length_take_of_le (Nat.le_of_lt h), hn4_a]
   first | refine ⟨⟨by omega, by omega⟩, ?_⟩ | skip
   refine aops_last 1 hops5 ?_
   simp only [go_sem]
   refine hKR5 _ ?_
   refine hK7 _ ?_
   refine awp_plain 2 (by kernel_rfl) rfl (fun g6 hg6 => ?_)
   simp only [go_sem]
   try simp (disch := omega) only [wrapN]
   refine ⟨_, ?_, k + 1, g5, 16, h, rfl, le_of ?_⟩
   ·omega
   simp only [go_sem, ← takeM _ h]
   omega
  ·refine awp_seq_k (fun K9 hK9 => ?_)
   refine awp_plain 1 (by kernel_rfl) rfl (fun g3 hg3 => ?_)
   simp only [go_sem, h]
   refine hK9 _ ?_
   refine awp_seq_k (fun K10 hK10 => ?_)
   refine awp_f rfl ?_
   refine awp_exit ?_
   refine hK3 _ ?_
   refine awp_seq_k (fun K11 hK11 => ?_)
   refine awp_plain 2 (by kernel_rfl) rfl (fun g7 hg7 => ?_)
   simp only [go_sem]
   refine hK11 _ ?_
   refine awp_ret ?_
   have : k = l.length := by omega
   subst this
   refine ret_frz ⟨a, i, 0⟩ ?_
   simp only [go_sem]
   refine ends_ev rfl ?_
   simp only [go_sem]
   exact Co.of_eq (by simp [Function.comp_def, encS])
def ksN : KS := .one .str
attribute [go_sem] ksN
abbrev Sc := List (Str × Nd)
def scE (s : Sc) : List (Value × D) := s.map fun p => (.string p.1, encNd p.2)
open Classical in
noncomputable def lookS : Sc → Str → Option Nd
 | [], _ => none
 | p :: r, v => if p.1 = v then some p.2 else lookS r v
open Classical in
theorem mget_sc : ∀ (s : Sc) (v : Str), mget (scE s) (.string v) = (lookS s v).map encNd
 | [], _ => rfl
 | p :: r, v => by
  have ih := mget_sc r v
  unfold scE at ih ⊢
  simp only [List.map_cons, mget, lookS]
  by_cases h : p.1 = v
  ·simp [h]
  ·rw [if_neg (by simpa using h), if_neg h, ih]
theorem mput_sc : ∀ (s : Sc) (v : Str) (n : Nd), lookS s v = none → mput (scE s) (.string v) (encNd n) = scE (s ++ [(v, n)])
 | [], _, _, _ => rfl
 | p :: r, v, n, h => by
  unfold lookS at h
  split at h
  ·cases h
  ·rename_i hne
   have ih := mput_sc r v n h
   unfold scE at ih ⊢
   simp only [List.map_cons, mput, List.cons_append]
   rw [if_neg (by simpa using hne), ih]
theorem lookS_app : ∀ (s t : Sc) (v : Str), lookS (s ++ t) v = match lookS s v with | some n => some n | none => lookS t v
 | [], _, _ => rfl
 | p :: r, t, v => by
  have ih := lookS_app r t v
  simp only [List.cons_append, lookS]
  split
  ·rfl
  ·exact ih
noncomputable def addS (s : Sc) (p : Str × Nd) : Sc := match lookS s p.1 with | some _ => s | none => s ++ [p]
theorem lookS_add (s : Sc) (p : Str × Nd) (v : Str) : lookS (addS s p) v = lookS (s ++ [p]) v := by
 unfold addS
 split
 ·rename_i n h
  rw [lookS_app]
  cases hv : lookS s v with
  | some n' => rfl
  | none =>
   have hne : p.1 ≠ v := fun e => by rw [e, hv] at h; cases h
   simp [lookS, hne]
 ·rfl
theorem lookS_adds : ∀ (m s : Sc) (v : Str), lookS (m.foldl addS s) v = lookS (s ++ m) v
 | [], s, v => by simp
 | p :: m, s, v => by
  rw [List.foldl_cons, lookS_adds m (addS s p) v, lookS_app, lookS_add, ← lookS_app, List.append_assoc]
  rfl
def scN (b : Bool) (o : Str) (ns : List Str) : Sc := ns.mapIdx fun i v => (v, ⟨b, o, (i : Int)⟩)
theorem scN_len (b : Bool) (o : Str) (ns : List Str) : (scN b o ns).length = ns.length := by simp [scN]
theorem scN_get (b : Bool) (o : Str) (ns : List Str) (k : Nat) (h : k < (scN b o ns).length) : (scN b o ns)[k] = (ns[k]'(by rwa [scN_len] at h), ⟨b, o, (k : Int)⟩) := by simp [scN]
noncomputable def putS2 (s : Sc) (b : Bool) (o : Str) (ns : List Str) : Sc := (scN b o ns).foldl addS s
theorem mclone_f : Tryz.layMClone_ren.f 5 = 124 := by kernel_rfl
theorem mclone_c (b : Nat) (es : Array MapEntry) (clock : Nat) (w : World) (h : w.heap[b]? = some (.map es clock)) : Calls E.P 124 #[.map (some b)] w fun e w' => e = .returned (.map (some w.heap.size)) ∧ w' = w.alloc (.map es clock) := by
 have := AnyW.maps_Clone Tryz.layMClone b es clock w h
 rw [mclone_f] at this
 exact this
theorem cloneSc_calls (s : Sc) (g d : Nat) : ACalls E 124 [.fmap ksN (scE s)] [] g d (.mref ⟨g, d, 1⟩) [(⟨g, d, 1⟩, .map ksN (scE s))] := by
 refine acalls_mclone (E := E) ?_ ?_ ksN (scE s) g d
 ·exact Tryz.call124
 ·exact mclone_c
theorem cloneNil_calls (g d : Nat) : ACalls E 124 [.val (.map none)] [] g d (.val (.map none)) [] :=
 acalls_same (l := [.map none]) Tryz.call124 (fun w => by
  have := AnyW.maps_Clone_nil Tryz.layMClone w
  rw [mclone_f] at this
  exact this)
theorem im_sc : isMapT Tryz.prog 151 = true := by kernel_rfl
attribute [go_sem] im_sc
set_option maxRecDepth 100000 in
theorem put_calls (s : Sc) (b : Bool) (o : Str) (ns : List Str) (hl : ns.length ≤ 1000000) (g d : Nat) : ACalls E 88 [.fmap ksN (scE s), dB b, encS o, slS ns] [] g d (.fmap ksN (scE (putS2 s b o ns))) [] := by
 refine acalls_of_awp (fn := Tryz.f88) (N := 42) Tryz.call88 Tryz.func88 rfl rfl (by simp) ?_
 simp only [go_sem]
 refine awp_seq_k (fun K1 hK1 => ?_)
 refine awp_plain 1 (by kernel_rfl) rfl (fun g0 hg0 => ?_)
 simp only [go_sem]
 refine hK1 _ ?_
 refine awp_seq_k (fun K2 hK2 => ?_)
 refine awp_ops (by kernel_rfl) rfl (fun g1 hg1 ops1 KR1 hops1 hKR1 => ?_)
 refine aops_eval 1 hops1 ?_
 simp only [go_sem]
 refine aops_pure hops1 rfl rfl rfl (cloneSc_calls s _ _) (CoL.refl _) ?_
 refine aops_last 1 hops1 ?_
 simp only [go_sem]
 refine hKR1 _ ?_
 refine hK2 _ ?_
 refine awp_seq_k (fun K3 hK3 => ?_)
 refine awp_seq_k (fun K4 hK4 => ?_)
 refine awp_plain 2 (by kernel_rfl) rfl (fun g2 hg2 => ?_)
 simp only [go_sem]
 refine hK4 _ ?_
 refine awp_f rfl ?_
 refine awp_skip ?_
 refine hK3 _ ?_
 refine awp_seq_k (fun K5 hK5 => ?_)
 refine awp_seq_k (fun K6 hK6 => ?_)
 refine awp_plain 3 (by kernel_rfl) rfl (fun g4 hg4 => ?_)
 simp only [go_sem]
 refine hK6 _ ?_
 refine awp_block ?_
 refine awp_loop (fun m st => ∃ k, k ≤ ns.length ∧ m = ns.length - k ∧ Le { env := [(1, dB b), (2, encS o), (9, .mref ⟨g1, 15, 1⟩), (19, slS ns), (20, dN ns.length), (21, dN k)], σ := [(⟨g1, 15, 1⟩, .map ksN (scE (((scN b o ns).take k).foldl addS s)))] } st) ns.length ?_ ?_
 ·refine ⟨0, Nat.zero_le _, rfl, le_of ?_⟩
  simp only [go_sem, List.take_zero, List.foldl_nil]
  all_goals first | done | exact rfl | exact ⟨rfl, rfl⟩ | trivial
 ·rintro m st ⟨k, hk, rfl, hle⟩
  refine awp_keep hle ?_
  clear hle
  by_cases h : k < ns.length
  ·have hk2 : k < (scN b o ns).length := by rwa [scN_len]
   have hst := foldTake addS s hk2
   rw [scN_get] at hst
   generalize ((scN b o ns).take k).foldl addS s = S at *
   refine awp_seq_k (fun K7 hK7 => ?_)
   refine awp_plain 1 (by kernel_rfl) rfl (fun g5 hg5 => ?_)
   simp only [go_sem, h]
   refine hK7 _ ?_
   refine awp_seq_k (fun K8 hK8 => ?_)
   refine awp_t rfl ?_
   refine awp_skip ?_
   refine hK8 _ ?_
   refine awp_seq_k (fun K9 hK9 => ?_)
   refine awp_block ?_
   refine awp_seq_k (fun K10 hK10 => ?_)
   refine awp_plain 5 (by kernel_rfl) rfl (fun g6 hg6 => ?_)
   simp only [go_sem, getM h]
   refine hK10 _ ?_
   refine awp_seq_k (fun K11 hK11 => ?_)
   cases hl : lookS S ns[k] with
   | some n =>
    rw [show addS S (ns[k], ⟨b, o, (k : Int)⟩) = S by simp [addS, hl]] at hst
    refine awp_plain 9 (by kernel_rfl) rfl (fun g7 hg7 => ?_)
    simp only [go_sem, mget_sc, hl, Option.map_some]
    refine hK11 _ ?_
    refine awp_seq_k (fun K12 hK12 => ?_)
    refine awp_plain 2 (by kernel_rfl) rfl (fun g8 hg8 => ?_)
    simp only [go_sem]
    refine hK12 _ ?_
    refine awp_f rfl ?_
    refine awp_skip ?_
    refine hK9 _ ?_
    refine awp_plain 2 (by kernel_rfl) rfl (fun g10 hg10 => ?_)
    simp only [go_sem]
    try simp (disch := omega) only [wrapN]
    refine ⟨_, ?_, k + 1, h, rfl, le_of ?_⟩
    ·omega
    simp only [go_sem, hst]
    all_goals first | done | exact rfl | exact ⟨rfl, rfl⟩ | trivial | omega
   | none =>
    rw [show addS S (ns[k], ⟨b, o, (k : Int)⟩) = S ++ [(ns[k], ⟨b, o, (k : Int)⟩)] by simp [addS, hl]] at hst
    have hp := mput_sc S ns[k] ⟨b, o, (k : Int)⟩ hl
    simp only [encNd, ndC, encS] at hp
    refine awp_plain 9 (by kernel_rfl) rfl (fun g7 hg7 => ?_)
    simp only [go_sem, mget_sc, hl, Option.map_none]
    refine hK11 _ ?_
    refine awp_seq_k (fun K13 hK13 => ?_)
    refine awp_plain 2 (by kernel_rfl) rfl (fun g8 hg8 => ?_)
    simp only [go_sem]
    refine hK13 _ ?_
    refine awp_t rfl ?_
    refine awp_plain 7 (by kernel_rfl) rfl (fun g9 hg9 => ?_)
    simp only [go_sem, hp]
    refine hK9 _ ?_
    refine awp_plain 2 (by kernel_rfl) rfl (fun g10 hg10 => ?_)
    simp only [go_sem]
    try simp (disch := omega) only [wrapN]
    refine ⟨_, ?_, k + 1, h, rfl, le_of ?_⟩
    ·omega
    simp only [go_sem, hst]
    all_goals first | done | exact rfl | exact ⟨rfl, rfl⟩ | trivial | omega
  ·have : k = ns.length := by omega
   subst this
   refine awp_seq_k (fun K14 hK14 => ?_)
   refine awp_plain 1 (by kernel_rfl) rfl (fun g5 hg5 => ?_)
   simp only [go_sem, h]
   refine hK14 _ ?_
   refine awp_seq_k (fun K15 hK15 => ?_)
   refine awp_f rfl ?_
   refine awp_exit ?_
   refine hK5 _ ?_
   refine awp_seq_k (fun K16 hK16 => ?_)
   refine awp_plain 2 (by kernel_rfl) rfl (fun g11 hg11 => ?_)
   simp only [go_sem]
   refine hK16 _ ?_
   refine awp_ret ?_
   rw [show (scN b o ns).take ns.length = scN b o ns from List.take_of_length_le (by rw [scN_len]; exact Nat.le_refl _)]
   refine ret_fmap ⟨g1, 15, 1⟩ ?_
   simp only [go_sem]
   refine ends_ev rfl ?_
   simp only [go_sem]
   exact Co.refl _
set_option maxRecDepth 100000 in
theorem putNil_calls (b : Bool) (o : Str) (ns : List Str) (hl : ns.length ≤ 1000000) (g d : Nat) : ACalls E 88 [.val (.map none), dB b, encS o, slS ns] [] g d (.fmap ksN (scE (putS2 [] b o ns))) [] := by
 refine acalls_of_awp (fn := Tryz.f88) (N := 42) Tryz.call88 Tryz.func88 rfl rfl (by simp) ?_
 simp only [go_sem]
 refine awp_seq_k (fun K1 hK1 => ?_)
 refine awp_plain 1 (by kernel_rfl) rfl (fun g0 hg0 => ?_)
 simp only [go_sem]
 refine hK1 _ ?_
 refine awp_seq_k (fun K2 hK2 => ?_)
 refine awp_ops (by kernel_rfl) rfl (fun g1 hg1 ops1 KR1 hops1 hKR1 => ?_)
 refine aops_eval 1 hops1 ?_
 simp only [go_sem]
 refine aops_pure hops1 rfl rfl rfl (cloneNil_calls _ _) (CoL.refl _) ?_
 refine aops_last 1 hops1 ?_
 simp only [go_sem]
 refine hKR1 _ ?_
 refine hK2 _ ?_
 refine awp_seq_k (fun K3 hK3 => ?_)
 refine awp_seq_k (fun K4 hK4 => ?_)
 refine awp_plain 2 (by kernel_rfl) rfl (fun g2 hg2 => ?_)
 simp only [go_sem]
 refine hK4 _ ?_
 refine awp_t rfl ?_
 refine awp_plain 2 (by kernel_rfl) rfl (fun g3 hg3 => ?_)
 simp only [go_sem]
 refine hK3 _ ?_
 refine awp_seq_k (fun K5 hK5 => ?_)
 refine awp_seq_k (fun K6 hK6 => ?_)
 refine awp_plain 3 (by kernel_rfl) rfl (fun g4 hg4 => ?_)
 simp only [go_sem]
 refine hK6 _ ?_
 refine awp_block ?_
 refine awp_loop (fun m st => ∃ k, k ≤ ns.length ∧ m = ns.length - k ∧ Le { env := [(1, dB b), (2, encS o), (9, .mref ⟨g3, 18, 0⟩), (19, slS ns), (20, dN ns.length), (21, dN k)], σ := [(⟨g3, 18, 0⟩, .map ksN (scE (((scN b o ns).take k).foldl addS ([] : Sc))))] } st) ns.length ?_ ?_
 ·refine ⟨0, Nat.zero_le _, rfl, le_of ?_⟩
  simp only [go_sem, List.take_zero, List.foldl_nil]
  all_goals first | done | exact rfl | exact ⟨rfl, rfl⟩ | trivial
 ·rintro m st ⟨k, hk, rfl, hle⟩
  refine awp_keep hle ?_
  clear hle
  by_cases h : k < ns.length
  ·have hk2 : k < (scN b o ns).length := by rwa [scN_len]
   have hst := foldTake addS ([] : Sc) hk2
   rw [scN_get] at hst
   generalize ((scN b o ns).take k).foldl addS ([] : Sc) = S at *
   refine awp_seq_k (fun K7 hK7 => ?_)
   refine awp_plain 1 (by kernel_rfl) rfl (fun g5 hg5 => ?_)
   simp only [go_sem, h]
   refine hK7 _ ?_
   refine awp_seq_k (fun K8 hK8 => ?_)
   refine awp_t rfl ?_
   refine awp_skip ?_
   refine hK8 _ ?_
   refine awp_seq_k (fun K9 hK9 => ?_)
   refine awp_block ?_
   refine awp_seq_k (fun K10 hK10 => ?_)
   refine awp_plain 5 (by kernel_rfl) rfl (fun g6 hg6 => ?_)
   simp only [go_sem, getM h]
   refine hK10 _ ?_
   refine awp_seq_k (fun K11 hK11 => ?_)
   cases hl : lookS S ns[k] with
   | some n =>
    rw [show addS S (ns[k], ⟨b, o, (k : Int)⟩) = S by simp [addS, hl]] at hst
    refine awp_plain 9 (by kernel_rfl) rfl (fun g7 hg7 => ?_)
    simp only [go_sem, mget_sc, hl, Option.map_some]
    refine hK11 _ ?_
    refine awp_seq_k (fun K12 hK12 => ?_)
    refine awp_plain 2 (by kernel_rfl) rfl (fun g8 hg8 => ?_)
    simp only [go_sem]
    refine hK12 _ ?_
    refine awp_f rfl ?_
    refine awp_skip ?_
    refine hK9 _ ?_
    refine awp_plain 2 (by kernel_rfl) rfl (fun g10 hg10 => ?_)
    simp only [go_sem]
    try simp (disch := omega) only [wrapN]
    refine ⟨_, ?_, k + 1, h, rfl, le_of ?_⟩
    ·omega
    simp only [go_sem, hst]
    all_goals first | done | exact rfl | exact ⟨rfl, rfl⟩ | trivial | omega
   | none =>
    rw [show addS S (ns[k], ⟨b, o, (k : Int)⟩) = S ++ [(ns[k], ⟨b, o, (k : Int)⟩)] by simp [addS, hl]] at hst
    have hp := mput_sc S ns[k] ⟨b, o, (k : Int)⟩ hl
    simp only [encNd, ndC, encS] at hp
    refine awp_plain 9 (by kernel_rfl) rfl (fun g7 hg7 => ?_)
    simp only [go_sem, mget_sc, hl, Option.map_none]
    refine hK11 _ ?_
    refine awp_seq_k (fun K13 hK13 => ?_)
    refine awp_plain 2 (by kernel_rfl) rfl (fun g8 hg8 => ?_)
    simp only [go_sem]
    refine hK13 _ ?_
    refine awp_t rfl ?_
    refine awp_plain 7 (by kernel_rfl) rfl (fun g9 hg9 => ?_)
    simp only [go_sem, hp]
    refine hK9 _ ?_
    refine awp_plain 2 (by kernel_rfl) rfl (fun g10 hg10 => ?_)
    simp only [go_sem]
    try simp (disch := omega) only [wrapN]
    refine ⟨_, ?_, k + 1, h, rfl, le_of ?_⟩
    ·omega
    simp only [go_sem, hst]
    all_goals first | done | exact rfl | exact ⟨rfl, rfl⟩ | trivial | omega
  ·have : k = ns.length := by omega
   subst this
   refine awp_seq_k (fun K14 hK14 => ?_)
   refine awp_plain 1 (by kernel_rfl) rfl (fun g5 hg5 => ?_)
   simp only [go_sem, h]
   refine hK14 _ ?_
   refine awp_seq_k (fun K15 hK15 => ?_)
   refine awp_f rfl ?_
   refine awp_exit ?_
   refine hK5 _ ?_
   refine awp_seq_k (fun K16 hK16 => ?_)
   refine awp_plain 2 (by kernel_rfl) rfl (fun g11 hg11 => ?_)
   simp only [go_sem]
   refine hK16 _ ?_
   refine awp_ret ?_
   rw [show (scN b o ns).take ns.length = scN b o ns from List.take_of_length_le (by rw [scN_len]; exact Nat.le_refl _)]
   refine ret_fmap ⟨g3, 18, 0⟩ ?_
   simp only [go_sem]
   refine ends_ev rfl ?_
   simp only [go_sem]
   exact Co.refl _
end Go.Proofs.T
namespace Go.Proofs.T
open Go Go.Ab Go.RowKit
def ksE : KS := .agg [.boo, .str, .num .i64, .boo, .str, .num .i64, .boo]
attribute [go_sem] ksE
theorem Nd.eta (x : Nd) : (⟨x.method, x.name, x.idx⟩ : Nd) = x := rfl
theorem mput_ed7 (l : List Ed) (a : Bool) (b : Str) (c : Int) (a' : Bool) (b' : Str) (c' : Int) (i : Bool) : mput (edE l) (.agg #[.bool a, .string b, .int .i64 c, .bool a', .string b', .int .i64 c', .bool i]) (.val (.bool true)) = edE (addE l ⟨⟨a, b, c⟩, ⟨a', b', c'⟩, i⟩) := mput_ed l ⟨⟨a, b, c⟩, ⟨a', b', c'⟩, i⟩
mutual
noncomputable def inE (sc : Sc) (to : Nd) : Ty → Bool → List Ed
 | .mk n l _, ins => (match lookS sc n with | some x => if l.length = 0 then [⟨x, to, ins⟩] else [] | none => []) ++ inEs sc to l
noncomputable def inEs (sc : Sc) (to : Nd) : List Ty → List Ed
 | [] => []
 | t :: r => inE sc to t true ++ inEs sc to r
end
mutual
noncomputable def visE (sc : Sc) : Ty → List Ed
 | .mk n l _ => argsE sc l false n 0
noncomputable def argsE (sc : Sc) : List Ty → Bool → Str → Nat → List Ed
 | [], _, _, _ => []
 | t :: r, b, o, i => inE sc ⟨b, o, (i : Int)⟩ t false ++ visE sc t ++ argsE sc r b o (i + 1)
end
noncomputable def hdE (sc : Sc) (to : Nd) (t : Ty) (ins : Bool) : List Ed := match lookS sc t.name with | some x => if t.args.length = 0 then [⟨x, to, ins⟩] else [] | none => []
theorem inEs_flat (sc : Sc) (to : Nd) : ∀ l, inEs sc to l = l.flatMap fun t => inE sc to t true
 | [] => by simp [inEs]
 | t :: r => by simp [inEs, inEs_flat sc to r]
theorem inE_eq (sc : Sc) (to : Nd) (t : Ty) (ins : Bool) : inE sc to t ins = hdE sc to t ins ++ t.args.flatMap fun t => inE sc to t true := by
 cases t
 simp only [inE, hdE, inEs_flat, Ty.name_mk, Ty.args_mk]
 rfl
theorem visE_eq (sc : Sc) (t : Ty) : visE sc t = argsE sc t.args false t.name 0 := by
 cases t
 simp only [visE, Ty.name_mk, Ty.args_mk]
theorem argsE_app (sc : Sc) (b : Bool) (o : Str) (t : Ty) : ∀ (l : List Ty) (i : Nat), argsE sc (l ++ [t]) b o i = argsE sc l b o i ++ (inE sc ⟨b, o, ((i + l.length : Nat) : Int)⟩ t false ++ visE sc t)
 | [], i => by simp [argsE]
 | x :: r, i => by
  simp only [List.cons_append, argsE, argsE_app sc b o t r (i + 1), List.append_assoc, List.length_cons]
  rw [show i + 1 + r.length = i + (r.length + 1) by omega]
theorem argsE_take (sc : Sc) (b : Bool) (o : Str) (l : List Ty) (k : Nat) (h : k < l.length) : argsE sc (l.take (k + 1)) b o 0 = argsE sc (l.take k) b o 0 ++ (inE sc ⟨b, o, (k : Int)⟩ l[k] false ++ visE sc l[k]) := by
 rw [List.take_add_one, List.getElem?_eq_getElem h, Option.toList_some, argsE_app, List.length_take_of_le (Nat.le_of_lt h), Nat.zero_add]
theorem flatTake {α β : Type} (f : α → List β) {l : List α} {k : Nat} (h : k < l.length) : (l.take (k + 1)).flatMap f = (l.take k).flatMap f ++ f l[k] := by
 rw [List.take_add_one, List.getElem?_eq_getElem h, Option.toList_some, List.flatMap_append]
 simp
set_option maxRecDepth 100000 in
theorem arg_calls (sc : Sc) (to : Nd) (q c : Nat) : ∀ (t : Ty), okTy t → ∀ (ins : Bool) (R : List Ed) (g d : Nat),
  ACalls E 127 [.mref ⟨q, c, 0⟩, .fmap ksN (scE sc), encNd to, encTy t, dB ins] [(⟨q, c, 0⟩, .map ksE (edE R))] g d (.tup []) [(⟨q, c, 0⟩, .map ksE (edE ((inE sc to t ins).foldl addE R)))] := by
 refine Ty.ind fun t ih hok ins R g d => ?_
 have h := (okTy_iff t).1 hok
 refine acalls_of_awp (fn := Tryz.f127) (N := 46) Tryz.call127 Tryz.func127 rfl rfl (by simp) ?_
 simp only [go_sem]
 refine awp_seq_k (fun K1 hK1 => ?_)
 refine awp_plain 2 (by kernel_rfl) rfl (fun g0 hg0 => ?_)
 simp only [go_sem]
 refine hK1 _ ?_
 refine awp_seq_k (fun K2 hK2 => ?_)
 refine awp_seq_k (fun K3 hK3 => ?_)
 have hn0_q : g0 ≠ q := fresh_g hg0 c 0 (by simp [go_sem])
 cases hl : lookS sc t.name with
 | none =>
  refine awp_plain 10 (by kernel_rfl) rfl (fun g1 hg1 => ?_)
  simp only [go_sem, mget_sc, hl, Option.map_none, Ne.symm hn0_q]
  refine hK3 _ ?_
  refine awp_seq_k (fun K4 hK4 => ?_)
  have hn1_q : g1 ≠ q := fresh_g hg1 c 0 (by simp [go_sem, hn0_q])
  refine awp_plain 7 (by kernel_rfl) rfl (fun g2 hg2 => ?_)
  simp only [go_sem]
  refine hK4 _ ?_
  refine awp_f rfl ?_
  refine awp_skip ?_
  refine hK2 _ ?_
  refine awp_seq_k (fun K5 hK5 => ?_)
  refine awp_plain 4 (by kernel_rfl) rfl (fun g4 hg4 => ?_)
  simp only [go_sem, Ne.symm hn0_q]
  refine hK5 _ ?_
  refine awp_block ?_
  have R1h : R = (hdE sc to t ins).foldl addE R := by simp only [hdE, hl, List.foldl_nil]
  rw [inE_eq, List.foldl_append, ← R1h]
  generalize R = R1
  clear R1h
  refine awp_loop (fun m st => ∃ k, k ≤ t.args.length ∧ m = t.args.length - k ∧ Le { env := [(0, .mref ⟨q, c, 0⟩), (1, .fmap ksN (scE sc)), (7, .ptr ⟨g0, 7, 0⟩ 0), (34, slTy t.args), (35, dN t.args.length), (36, dN k)], σ := [(⟨g0, 7, 0⟩, .box 37 (ndC to)), (⟨q, c, 0⟩, .map ksE (edE (((t.args.take k).flatMap fun t => inE sc to t true).foldl addE R1)))] } st) t.args.length ?_ ?_
  ·refine ⟨0, Nat.zero_le _, rfl, le_of ?_⟩
   simp only [go_sem, List.take_zero, List.flatMap_nil, List.foldl_nil, hn0_q, Ne.symm hn0_q, hn1_q]
   all_goals first | done | exact rfl | exact ⟨rfl, rfl⟩ | trivial | omega
  ·rintro m st ⟨k, hk, rfl, hle⟩
   refine awp_keep hle ?_
   clear hle
   refine awp_seq_k (fun K6 hK6 => ?_)
   by_cases hlt : k < t.args.length
   ·have hfl : ((t.args.take (k + 1)).flatMap fun t => inE sc to t true).foldl addE R1 = (inE sc to t.args[k] true).foldl addE (((t.args.take k).flatMap fun t => inE sc to t true).foldl addE R1) := by
     rw [flatTake _ hlt, List.foldl_append]
    have hgm := getM (f := encTy) hlt
    have hmem := List.getElem_mem hlt
    generalize t.args[k] = X at *
    generalize ((t.args.take k).flatMap fun t => inE sc to t true).foldl addE R1 = R2 at *
    refine awp_plain 1 (by kernel_rfl) rfl (fun g5 hg5 => ?_)
    simp only [go_sem, hlt]
    refine hK6 _ ?_
    refine awp_seq_k (fun K7 hK7 => ?_)
    refine awp_t rfl ?_
    refine awp_skip ?_
    refine hK7 _ ?_
    refine awp_seq_k (fun K8 hK8 => ?_)
    refine awp_block ?_
    refine awp_seq_k (fun K9 hK9 => ?_)
    refine awp_plain 4 (by kernel_rfl) rfl (fun g6 hg6 => ?_)
    simp only [go_sem, hgm]
    refine hK9 _ ?_
    have hn6_q : g6 ≠ q := fresh_g hg6 c 0 (by simp [go_sem, hn0_q])
    refine awp_ops (by kernel_rfl) rfl (fun g7 hg7 ops7 KR7 hops7 hKR7 => ?_)
    refine aops_eval 4 hops7 ?_
    simp only [go_sem, Ne.symm hn0_q, Ne.symm hn6_q]
    refine aops_call hops7 rfl rfl rfl (ih X hmem (h.2.2 X hmem) true R2 _ _) (CoL.refl _) (by simp [go_sem, hn0_q, hn6_q]) ?_
    refine aops_last 0 hops7 ?_
    simp only [go_sem, hn0_q, hn6_q]
    refine hKR7 _ ?_
    refine hK8 _ ?_
    refine awp_plain 2 (by kernel_rfl) rfl (fun g8 hg8 => ?_)
    simp only [go_sem]
    try simp (disch := omega) only [wrapN]
    refine ⟨_, ?_, k + 1, hlt, rfl, le_of ?_⟩
    ·omega
    simp only [go_sem, hfl, hn0_q, Ne.symm hn0_q, hn6_q]
    all_goals first | done | exact rfl | exact ⟨rfl, rfl⟩ | trivial | omega
   ·have : k = t.args.length := by omega
    subst this
    refine awp_plain 1 (by kernel_rfl) rfl (fun g5 hg5 => ?_)
    simp only [go_sem, hlt]
    refine hK6 _ ?_
    refine awp_seq_k (fun K10 hK10 => ?_)
    refine awp_f rfl ?_
    refine awp_exit ?_
    show Go.Ab.Ends E _ _ _ _ _ _
    refine ends_keep rfl (by simp [go_sem, hn0_q]) ?_
    simp only [go_sem]
    exact Co.refl _
 | some x =>
  refine awp_plain 10 (by kernel_rfl) rfl (fun g1 hg1 => ?_)
  simp only [go_sem, mget_sc, hl, Option.map_some, Ne.symm hn0_q]
  refine hK3 _ ?_
  refine awp_seq_k (fun K11 hK11 => ?_)
  have hn1_q : g1 ≠ q := fresh_g hg1 c 0 (by simp [go_sem, hn0_q])
  by_cases h0 : t.args.length = 0
  ·have h0i : ((t.args.length : Nat) : Int) = 0 := by omega
   refine awp_plain 7 (by kernel_rfl) rfl (fun g2 hg2 => ?_)
   simp only [go_sem, h0i, decide_true, Ne.symm hn0_q]
   refine hK11 _ ?_
   refine awp_t rfl ?_
   refine awp_plain 6 (by kernel_rfl) rfl (fun g3 hg3 => ?_)
   simp only [go_sem, mput_ed7, Nd.eta, hn0_q, Ne.symm hn0_q, hn1_q, Ne.symm hn1_q]
   refine hK2 _ ?_
   refine awp_seq_k (fun K12 hK12 => ?_)
   refine awp_plain 4 (by kernel_rfl) rfl (fun g4 hg4 => ?_)
   simp only [go_sem, Ne.symm hn0_q]
   refine hK12 _ ?_
   refine awp_block ?_
   have R1h : addE R ⟨x, to, ins⟩ = (hdE sc to t ins).foldl addE R := by simp only [hdE, hl, h0, if_true, List.foldl_nil, List.foldl_cons]
   rw [inE_eq, List.foldl_append, ← R1h]
   generalize addE R ⟨x, to, ins⟩ = R1
   clear R1h
   refine awp_loop (fun m st => ∃ k, k ≤ t.args.length ∧ m = t.args.length - k ∧ Le { env := [(0, .mref ⟨q, c, 0⟩), (1, .fmap ksN (scE sc)), (7, .ptr ⟨g0, 7, 0⟩ 0), (34, slTy t.args), (35, dN t.args.length), (36, dN k)], σ := [(⟨g0, 7, 0⟩, .box 37 (ndC to)), (⟨q, c, 0⟩, .map ksE (edE (((t.args.take k).flatMap fun t => inE sc to t true).foldl addE R1)))] } st) t.args.length ?_ ?_
   ·refine ⟨0, Nat.zero_le _, rfl, le_of ?_⟩
    simp only [go_sem, List.take_zero, List.flatMap_nil, List.foldl_nil, hn0_q, Ne.symm hn0_q, hn1_q]
    all_goals first | done | exact rfl | exact ⟨rfl, rfl⟩ | trivial | omega
   ·rintro m st ⟨k, hk, rfl, hle⟩
    refine awp_keep hle ?_
    clear hle
    refine awp_seq_k (fun K13 hK13 => ?_)
    by_cases hlt : k < t.args.length
    ·have hfl : ((t.args.take (k + 1)).flatMap fun t => inE sc to t true).foldl addE R1 = (inE sc to t.args[k] true).foldl addE (((t.args.take k).flatMap fun t => inE sc to t true).foldl addE R1) := by
      rw [flatTake _ hlt, List.foldl_append]
     have hgm := getM (f := encTy) hlt
     have hmem := List.getElem_mem hlt
     generalize t.args[k] = X at *
     generalize ((t.args.take k).flatMap fun t => inE sc to t true).foldl addE R1 = R2 at *
     refine awp_plain 1 (by kernel_rfl) rfl (fun g5 hg5 => ?_)
     simp only [go_sem, hlt]
     refine hK13 _ ?_
     refine awp_seq_k (fun K14 hK14 => ?_)
     refine awp_t rfl ?_
     refine awp_skip ?_
     refine hK14 _ ?_
     refine awp_seq_k (fun K15 hK15 => ?_)
     refine awp_block ?_
     refine awp_seq_k (fun K16 hK16 => ?_)
     refine awp_plain 4 (by kernel_rfl) rfl (fun g6 hg6 => ?_)
     simp only [go_sem, hgm]
     refine hK16 _ ?_
     have hn6_q : g6 ≠ q := fresh_g hg6 c 0 (by simp [go_sem, hn0_q])
     refine awp_ops (by kernel_rfl) rfl (fun g7 hg7 ops7 KR7 hops7 hKR7 => ?_)
     refine aops_eval 4 hops7 ?_
     simp only [go_sem, Ne.symm hn0_q, Ne.symm hn6_q]
     refine aops_call hops7 rfl rfl rfl (ih X hmem (h.2.2 X hmem) true R2 _ _) (CoL.refl _) (by simp [go_sem, hn0_q, hn6_q]) ?_
     refine aops_last 0 hops7 ?_
     simp only [go_sem, hn0_q, hn6_q]
     refine hKR7 _ ?_
     refine hK15 _ ?_
     refine awp_plain 2 (by kernel_rfl) rfl (fun g8 hg8 => ?_)
     simp only [go_sem]
     try simp (disch := omega) only [wrapN]
     refine ⟨_, ?_, k + 1, hlt, rfl, le_of ?_⟩
     ·omega
     simp only [go_sem, hfl, hn0_q, Ne.symm hn0_q, hn6_q]
     all_goals first | done | exact rfl | exact ⟨rfl, rfl⟩ | trivial | omega
    ·have : k = t.args.length := by omega
     subst this
     refine awp_plain 1 (by kernel_rfl) rfl (fun g5 hg5 => ?_)
     simp only [go_sem, hlt]
     refine hK13 _ ?_
     refine awp_seq_k (fun K17 hK17 => ?_)
     refine awp_f rfl ?_
     refine awp_exit ?_
     show Go.Ab.Ends E _ _ _ _ _ _
     refine ends_keep rfl (by simp [go_sem, hn0_q]) ?_
     simp only [go_sem]
     exact Co.refl _
  ·have h0i : ¬ ((t.args.length : Nat) : Int) = 0 := by omega
   refine awp_plain 7 (by kernel_rfl) rfl (fun g2 hg2 => ?_)
   simp only [go_sem, h0i, decide_false, Ne.symm hn0_q]
   refine hK11 _ ?_
   refine awp_f rfl ?_
   refine awp_skip ?_
   refine hK2 _ ?_
   refine awp_seq_k (fun K18 hK18 => ?_)
   refine awp_plain 4 (by kernel_rfl) rfl (fun g4 hg4 => ?_)
   simp only [go_sem, Ne.symm hn0_q]
   refine hK18 _ ?_
   refine awp_block ?_
   have R1h : R = (hdE sc to t ins).foldl addE R := by simp only [hdE, hl, h0, if_false, List.foldl_nil]
   rw [inE_eq, List.foldl_append, ← R1h]
   generalize R = R1
   clear R1h
   refine awp_loop (fun m st => ∃ k, k ≤ t.args.length ∧ m = t.args.length - k ∧ Le { env := [(0, .mref ⟨q, c, 0⟩), (1, .fmap ksN (scE sc)), (7, .ptr ⟨g0, 7, 0⟩ 0), (34, slTy t.args), (35, dN t.args.length), (36, dN k)], σ := [(⟨g0, 7, 0⟩, .box 37 (ndC to)), (⟨q, c, 0⟩, .map ksE (edE (((t.args.take k).flatMap fun t => inE sc to t true).foldl addE R1)))] } st) t.args.length ?_ ?_
   ·refine ⟨0, Nat.zero_le _, rfl, le_of ?_⟩
    simp only [go_sem, List.take_zero, List.flatMap_nil, List.foldl_nil, hn0_q, Ne.symm hn0_q, hn1_q]
    all_goals first | done | exact rfl | exact ⟨rfl, rfl⟩ | trivial | omega
   ·rintro m st ⟨k, hk, rfl, hle⟩
    refine awp_keep hle ?_
    clear hle
    refine awp_seq_k (fun K19 hK19 => ?_)
    by_cases hlt : k < t.args.length
    ·have hfl : ((t.args.take (k + 1)).flatMap fun t => inE sc to t true).foldl addE R1 = (inE sc to t.args[k] true).foldl addE (((t.args.take k).flatMap fun t => inE sc to t true).foldl addE R1) := by
      rw [flatTake _ hlt, List.foldl_append]
     have hgm := getM (f := encTy) hlt
     have hmem := List.getElem_mem hlt
     generalize t.args[k] = X at *
     generalize ((t.args.take k).flatMap fun t => inE sc to t true).foldl addE R1 = R2 at *
     refine awp_plain 1 (by kernel_rfl) rfl (fun g5 hg5 => ?_)
     simp only [go_sem, hlt]
     refine hK19 _ ?_
     refine awp_seq_k (fun K20 hK20 => ?_)
     refine awp_t rfl ?_
     refine awp_skip ?_
     refine hK20 _ ?_
     refine awp_seq_k (fun K21 hK21 => ?_)
     refine awp_block ?_
     refine awp_seq_k (fun K22 hK22 => ?_)
     refine awp_plain 4 (by kernel_rfl) rfl (fun g6 hg6 => ?_)
     simp only [go_sem, hgm]
     refine hK22 _ ?_
     have hn6_q : g6 ≠ q := fresh_g hg6 c 0 (by simp [go_sem, hn0_q])
     refine awp_ops (by kernel_rfl) rfl (fun g7 hg7 ops7 KR7 hops7 hKR7 => ?_)
     refine aops_eval 4 hops7 ?_
     simp only [go_sem, Ne.symm hn0_q, Ne.symm hn6_q]
     refine aops_call hops7 rfl rfl rfl (ih X hmem (h.2.2 X hmem) true R2 _ _) (CoL.refl _) (by simp [go_sem, hn0_q, hn6_q]) ?_
     refine aops_last 0 hops7 ?_
     simp only [go_sem, hn0_q, hn6_q]
     refine hKR7 _ ?_
     refine hK21 _ ?_
     refine awp_plain 2 (by kernel_rfl) rfl (fun g8 hg8 => ?_)
     simp only [go_sem]
     try simp (disch := omega) only [wrapN]
     refine ⟨_, ?_, k + 1, hlt, rfl, le_of ?_⟩
     ·omega
     simp only [go_sem, hfl, hn0_q, Ne.symm hn0_q, hn6_q]
     all_goals first | done | exact rfl | exact ⟨rfl, rfl⟩ | trivial | omega
    ·have : k = t.args.length := by omega
     subst this
     refine awp_plain 1 (by kernel_rfl) rfl (fun g5 hg5 => ?_)
     simp only [go_sem, hlt]
     refine hK19 _ ?_
     refine awp_seq_k (fun K23 hK23 => ?_)
     refine awp_f rfl ?_
     refine awp_exit ?_
     show Go.Ab.Ends E _ _ _ _ _ _
     refine ends_keep rfl (by simp [go_sem, hn0_q]) ?_
     simp only [go_sem]
     exact Co.refl _
abbrev VisC (sc : Sc) (q c : Nat) (x : Ty) : Prop := ∀ (R : List Ed) (g d : Nat), ACalls E 94 [.mref ⟨q, c, 0⟩, .fmap ksN (scE sc), encTy x] [(⟨q, c, 0⟩, .map ksE (edE R))] g d (.tup []) [(⟨q, c, 0⟩, .map ksE (edE ((visE sc x).foldl addE R)))]
set_option maxRecDepth 100000 in
theorem argsV_calls (sc : Sc) (q c : Nat) (l : List Ty) (hl : l.length ≤ 9223372036854775807) (hok : ∀ x ∈ l, okTy x) (hv : ∀ x ∈ l, VisC sc q c x) (b : Bool) (o : Str) (R : List Ed) (g d : Nat) :
  ACalls E 95 [.mref ⟨q, c, 0⟩, .fmap ksN (scE sc), dB b, encS o, slTy l] [(⟨q, c, 0⟩, .map ksE (edE R))] g d (.tup []) [(⟨q, c, 0⟩, .map ksE (edE ((argsE sc l b o 0).foldl addE R)))] := by
 refine acalls_of_awp (fn := Tryz.f95) (N := 32) Tryz.call95 Tryz.func95 rfl rfl (by simp) ?_
 simp only [go_sem]
 refine awp_seq_k (fun K1 hK1 => ?_)
 refine awp_plain 3 (by kernel_rfl) rfl (fun g0 hg0 => ?_)
 simp only [go_sem]
 refine hK1 _ ?_
 refine awp_block ?_
 refine awp_loop (fun m st => ∃ k, k ≤ l.length ∧ m = l.length - k ∧ Le { env := [(0, .mref ⟨q, c, 0⟩), (1, .fmap ksN (scE sc)), (2, dB b), (3, encS o), (12, slTy l), (13, dN l.length), (14, dN k)], σ := [(⟨q, c, 0⟩, .map ksE (edE ((argsE sc (l.take k) b o 0).foldl addE R)))] } st) l.length ?_ ?_
 ·refine ⟨0, Nat.zero_le _, rfl, le_of ?_⟩
  simp only [go_sem, List.take_zero, argsE, List.foldl_nil]
  all_goals first | done | exact rfl | exact ⟨rfl, rfl⟩ | trivial | omega
 ·rintro m st ⟨k, hk, rfl, hle⟩
  refine awp_keep hle ?_
  clear hle
  refine awp_seq_k (fun K2 hK2 => ?_)
  by_cases hlt : k < l.length
  ·have hfl : (argsE sc (l.take (k + 1)) b o 0).foldl addE R = (visE sc l[k]).foldl addE ((inE sc ⟨b, o, (k : Int)⟩ l[k] false).foldl addE ((argsE sc (l.take k) b o 0).foldl addE R)) := by
    rw [argsE_take _ _ _ _ _ hlt, List.foldl_append, List.foldl_append]
   have hgm := getM (f := encTy) hlt
   have hmem := List.getElem_mem hlt
   generalize l[k] = X at *
   generalize (argsE sc (l.take k) b o 0).foldl addE R = R2 at *
   refine awp_plain 1 (by kernel_rfl) rfl (fun g1 hg1 => ?_)
   simp only [go_sem, hlt]
   refine hK2 _ ?_
   refine awp_seq_k (fun K3 hK3 => ?_)
   refine awp_t rfl ?_
   refine awp_skip ?_
   refine hK3 _ ?_
   refine awp_seq_k (fun K4 hK4 => ?_)
   refine awp_block ?_
   refine awp_seq_k (fun K5 hK5 => ?_)
   refine awp_plain 6 (by kernel_rfl) rfl (fun g2 hg2 => ?_)
   simp only [go_sem, hgm]
   refine hK5 _ ?_
   refine awp_seq_k (fun K6 hK6 => ?_)
   have hn2_q : g2 ≠ q := fresh_g hg2 c 0 (by simp [go_sem])
   refine awp_ops (by kernel_rfl) rfl (fun g3 hg3 ops3 KR3 hops3 hKR3 => ?_)
   refine aops_eval 7 hops3 ?_
   simp only [go_sem, Ne.symm hn2_q]
   refine aops_call hops3 rfl rfl rfl (arg_calls sc ⟨b, o, (k : Int)⟩ q c X (hok X hmem) false R2 _ _) (CoL.refl _) (by simp [go_sem, hn2_q]) ?_
   refine aops_last 0 hops3 ?_
   simp only [go_sem, hn2_q]
   refine hKR3 _ ?_
   refine hK6 _ ?_
   refine awp_ops (by kernel_rfl) rfl (fun g4 hg4 ops4 KR4 hops4 hKR4 => ?_)
   refine aops_eval 3 hops4 ?_
   simp only [go_sem, Ne.symm hn2_q]
   refine aops_call hops4 rfl rfl rfl (hv X hmem ((inE sc ⟨b, o, (k : Int)⟩ X false).foldl addE R2) _ _) (CoL.refl _) (by simp [go_sem]) ?_
   refine aops_last 0 hops4 ?_
   simp only [go_sem, hn2_q]
   refine hKR4 _ ?_
   refine hK4 _ ?_
   refine awp_plain 2 (by kernel_rfl) rfl (fun g5 hg5 => ?_)
   simp only [go_sem]
   try simp (disch := omega) only [wrapN]
   refine ⟨_, ?_, k + 1, hlt, rfl, le_of ?_⟩
   ·omega
   simp only [go_sem, hfl, hn2_q]
   all_goals first | done | exact rfl | exact ⟨rfl, rfl⟩ | trivial | omega
  ·have : k = l.length := by omega
   subst this
   refine awp_plain 1 (by kernel_rfl) rfl (fun g1 hg1 => ?_)
   simp only [go_sem, hlt]
   refine hK2 _ ?_
   refine awp_seq_k (fun K7 hK7 => ?_)
   refine awp_f rfl ?_
   refine awp_exit ?_
   show Go.Ab.Ends E _ _ _ _ _ _
   refine ends_keep rfl (by simp [go_sem]) ?_
   simp only [go_sem]
   exact Co.refl _
theorem visT_calls (sc : Sc) (q c : Nat) : ∀ (t : Ty), okTy t → VisC sc q c t := by
 refine Ty.ind fun t ih hok R g d => ?_
 have h := (okTy_iff t).1 hok
 refine acalls_of_awp (fn := Tryz.f94) (N := 13) Tryz.call94 Tryz.func94 rfl rfl (by simp) ?_
 simp only [go_sem]
 refine awp_seq_k (fun K1 hK1 => ?_)
 refine awp_plain 1 (by kernel_rfl) rfl (fun g0 hg0 => ?_)
 simp only [go_sem]
 refine hK1 _ ?_
 have hn0_q : g0 ≠ q := fresh_g hg0 c 0 (by simp [go_sem])
 rw [visE_eq]
 refine awp_ops (by kernel_rfl) rfl (fun g1 hg1 ops1 KR1 hops1 hKR1 => ?_)
 refine aops_eval 6 hops1 ?_
 simp only [go_sem, Ne.symm hn0_q]
 refine aops_call hops1 rfl rfl rfl (argsV_calls sc q c t.args h.2.1 h.2.2 (fun x hx => ih x hx (h.2.2 x hx)) false t.name R _ _) (CoL.refl _) (by simp [go_sem, hn0_q]) ?_
 refine aops_last 0 hops1 ?_
 simp only [go_sem, hn0_q]
 refine hKR1 _ ?_
 show Go.Ab.Ends E _ _ _ _ _ _
 refine ends_keep rfl (by simp [go_sem]) ?_
 simp only [go_sem]
 exact Co.refl _
theorem args_calls (sc : Sc) (q c : Nat) (l : List Ty) (hl : l.length ≤ 9223372036854775807) (hok : ∀ x ∈ l, okTy x) (b : Bool) (o : Str) (R : List Ed) (g d : Nat) :
  ACalls E 95 [.mref ⟨q, c, 0⟩, .fmap ksN (scE sc), dB b, encS o, slTy l] [(⟨q, c, 0⟩, .map ksE (edE R))] g d (.tup []) [(⟨q, c, 0⟩, .map ksE (edE ((argsE sc l b o 0).foldl addE R)))] :=
 argsV_calls sc q c l hl hok (fun x hx => visT_calls sc q c x (hok x hx)) b o R g d
end Go.Proofs.T
namespace Go.Proofs.T
open Go Go.Ab Go.RowKit
end Go.Proofs.T
namespace Go.Proofs.T
open Go Go.Ab Go.RowKit
theorem cntEx_sm : ∀ (e : Ex) (n : Nat), countEx e n ≤ 2000 → smEx e := by
 refine Ex.ind fun e ih n h => ?_
 have h1 := count_ge e.type (n + e.name.size / 50)
 have h2 := cnt_ge (f := count) (fun t m => by have := count_ge t m; omega) e.targs (count e.type (n + e.name.size / 50))
 rw [countEx_eq] at h
 obtain ⟨k1, k2⟩ := cnt_small countEx_ge e.kids _ h
 obtain ⟨k3, k4⟩ := cntTys_sm e.targs (count e.type (n + e.name.size / 50)) (by omega)
 have k5 := count_sm e.type (n + e.name.size / 50) (by omega)
 refine (smEx_iff e).2 ⟨by omega, k5, ⟨by omega, k4⟩, by omega, fun x hx => ?_⟩
 obtain ⟨m, hm⟩ := k2 x hx
 exact ih x hx m (by omega)
theorem cntS_ge (v : Str) (n : Nat) : n + 1 ≤ cntS v n := by unfold cntS; omega
theorem cntDe_sm (d : Dec) (n : Nat) (h : cntDe d n ≤ 2000) : smDe d := by
 have g1 := cnt_ge (fun a n => Nat.le_trans (Nat.le_succ n) (cntFm_ge a n)) d.formals (n + 1 + d.name.size / 50 + d.recv.size / 50)
 have g2 := cnt_ge (fun a n => Nat.le_trans (Nat.le_succ n) (cntPa_ge a n)) d.fields (cnt cntFm d.formals (n + 1 + d.name.size / 50 + d.recv.size / 50))
 have g3 := cnt_ge (fun a n => Nat.le_trans (Nat.le_succ n) (cntSi_ge a n)) d.sigs (cntHead d n)
 have g4 := cnt_ge (fun a n => Nat.le_trans (Nat.le_succ n) (cntS_ge a n)) d.vars (cnt cntSi d.sigs (cntHead d n))
 have g5 := cntSi_ge d.sig (cnt cntS d.vars (cnt cntSi d.sigs (cntHead d n)))
 have g6 := countEx_ge d.body (cntSi d.sig (cnt cntS d.vars (cnt cntSi d.sigs (cntHead d n))))
 have e0 : cntHead d n = cnt cntPa d.fields (cnt cntFm d.formals (n + 1 + d.name.size / 50 + d.recv.size / 50)) := rfl
 unfold cntDe cntTail at h
 split at h
 ·have a1 := cntFms_sm d.formals (n + 1 + d.name.size / 50 + d.recv.size / 50) (by omega)
  have a2 := cntPas_sm d.fields (cnt cntFm d.formals (n + 1 + d.name.size / 50 + d.recv.size / 50)) (by omega)
  obtain ⟨a3, a4⟩ := cnt_small cntSi_ge d.sigs (cntHead d n) (by omega)
  obtain ⟨a5, a6⟩ := cnt_small cntS_ge d.vars (cnt cntSi d.sigs (cntHead d n)) (by omega)
  have a7 := cntSi_sm d.sig (cnt cntS d.vars (cnt cntSi d.sigs (cntHead d n))) (by omega)
  have a8 := cntEx_sm d.body (cntSi d.sig (cnt cntS d.vars (cnt cntSi d.sigs (cntHead d n)))) (by omega)
  refine ⟨by omega, ⟨by omega, a1.2⟩, ⟨by omega, a2.2⟩, ⟨by omega, fun s hs => ?_⟩, by omega, ⟨by omega, fun v hv => ?_⟩, a7.1, a8⟩
  ·obtain ⟨m, hm⟩ := a4 s hs
   exact (cntSi_sm s m (by omega)).1
  ·obtain ⟨m, hm⟩ := a6 v hv
   have e1 : cntS v m = m + 1 + v.size / 50 := rfl
   omega
 ·omega
theorem cntDe_ge (d : Dec) (n : Nat) : n + 1 ≤ cntDe d n := by
 have g1 := cnt_ge (fun a n => Nat.le_trans (Nat.le_succ n) (cntFm_ge a n)) d.formals (n + 1 + d.name.size / 50 + d.recv.size / 50)
 have g2 := cnt_ge (fun a n => Nat.le_trans (Nat.le_succ n) (cntPa_ge a n)) d.fields (cnt cntFm d.formals (n + 1 + d.name.size / 50 + d.recv.size / 50))
 have g3 := cnt_ge (fun a n => Nat.le_trans (Nat.le_succ n) (cntSi_ge a n)) d.sigs (cntHead d n)
 have g4 := cnt_ge (fun a n => Nat.le_trans (Nat.le_succ n) (cntS_ge a n)) d.vars (cnt cntSi d.sigs (cntHead d n))
 have g5 := cntSi_ge d.sig (cnt cntS d.vars (cnt cntSi d.sigs (cntHead d n)))
 have g6 := countEx_ge d.body (cntSi d.sig (cnt cntS d.vars (cnt cntSi d.sigs (cntHead d n))))
 have e0 : cntHead d n = cnt cntPa d.fields (cnt cntFm d.formals (n + 1 + d.name.size / 50 + d.recv.size / 50)) := rfl
 unfold cntDe cntTail
 split <;> omega
theorem cntPr_sm (p : Prg) (h : cntPr p ≤ 600) : smPr p ∧ p.decls.length ≤ 600 := by
 unfold cntPr at h
 have g1 := countEx_ge p.main 0
 have g2 := cnt_ge (fun a n => Nat.le_trans (Nat.le_succ n) (cntDe_ge a n)) p.decls (countEx p.main 0)
 obtain ⟨a1, a2⟩ := cnt_small cntDe_ge p.decls (countEx p.main 0) (by omega)
 refine ⟨⟨⟨by omega, fun d hd => ?_⟩, cntEx_sm p.main 0 (by omega)⟩, by omega⟩
 obtain ⟨m, hm⟩ := a2 d hd
 exact cntDe_sm d m (by omega)
end Go.Proofs.T
namespace Go.Proofs.T
open Go Go.Ab Go.RowKit
theorem class_0 (c : Int) (h : 97 ≤ c ∧ c ≤ 122) (g d : Nat) : ACalls E 106 [.val (.int .u8 c)] [] g d (dI 1) [] := by
 have x0 : (97 ≤ c) = True := eq_true (by omega)
 have x1 : (c ≤ 122) = True := eq_true (by omega)
 have x2 : (65 ≤ c) = True := eq_true (by omega)
 have x3 : (c ≤ 90) = False := eq_false (by omega)
 have x4 : (48 ≤ c) = True := eq_true (by omega)
 have x5 : (c ≤ 57) = False := eq_false (by omega)
 have x6 : (c = 95) = False := eq_false (by omega)
 have x7 : (c = 9) = False := eq_false (by omega)
 have x8 : (c = 10) = False := eq_false (by omega)
 have x9 : (c = 13) = False := eq_false (by omega)
 have x10 : (c = 32) = False := eq_false (by omega)
 refine acalls_of_awp (fn := Tryz.f106) (N := 39) Tryz.call106 Tryz.func106 rfl rfl (by simp) ?_
 simp only [go_sem]
 refine awp_seq_k (fun K1 hK1 => ?_)
 refine awp_plain 1 (by kernel_rfl) rfl (fun g0 hg0 => ?_)
 simp only [go_sem]
 refine hK1 _ ?_
 refine awp_seq_k (fun K2 hK2 => ?_)
 refine awp_seq_k (fun K3 hK3 => ?_)
 refine awp_plain 14 (by kernel_rfl) rfl (fun g1 hg1 => ?_)
 simp only [go_sem, x0, x1, decide_true]
 refine hK3 _ ?_
 refine awp_t rfl ?_
 refine awp_seq_k (fun K4 hK4 => ?_)
 refine awp_plain 1 (by kernel_rfl) rfl (fun g2 hg2 => ?_)
 simp only [go_sem]
 refine hK4 _ ?_
 refine awp_ret ?_
 refine ends_ev rfl ?_
 simp only [go_sem]
 exact Co.of_eq rfl
theorem class_1 (c : Int) (h : 65 ≤ c ∧ c ≤ 90) (g d : Nat) : ACalls E 106 [.val (.int .u8 c)] [] g d (dI 1) [] := by
 have x0 : (97 ≤ c) = False := eq_false (by omega)
 have x1 : (c ≤ 122) = True := eq_true (by omega)
 have x2 : (65 ≤ c) = True := eq_true (by omega)
 have x3 : (c ≤ 90) = True := eq_true (by omega)
 have x4 : (48 ≤ c) = True := eq_true (by omega)
 have x5 : (c ≤ 57) = False := eq_false (by omega)
 have x6 : (c = 95) = False := eq_false (by omega)
 have x7 : (c = 9) = False := eq_false (by omega)
 have x8 : (c = 10) = False := eq_false (by omega)
 have x9 : (c = 13) = False := eq_false (by omega)
 have x10 : (c = 32) = False := eq_false (by omega)
 refine acalls_of_awp (fn := Tryz.f106) (N := 39) Tryz.call106 Tryz.func106 rfl rfl (by simp) ?_
 simp only [go_sem]
 refine awp_seq_k (fun K1 hK1 => ?_)
 refine awp_plain 1 (by kernel_rfl) rfl (fun g0 hg0 => ?_)
 simp only [go_sem]
 refine hK1 _ ?_
 refine awp_seq_k (fun K2 hK2 => ?_)
 refine awp_seq_k (fun K3 hK3 => ?_)
 refine awp_plain 14 (by kernel_rfl) rfl (fun g1 hg1 => ?_)
 simp only [go_sem, x0, x2, x3, decide_true, decide_false]
 refine hK3 _ ?_
 refine awp_t rfl ?_
 refine awp_seq_k (fun K4 hK4 => ?_)
 refine awp_plain 1 (by kernel_rfl) rfl (fun g2 hg2 => ?_)
 simp only [go_sem]
 refine hK4 _ ?_
 refine awp_ret ?_
 refine ends_ev rfl ?_
 simp only [go_sem]
 exact Co.of_eq rfl
theorem class_2 (c : Int) (h : 48 ≤ c ∧ c ≤ 57) (g d : Nat) : ACalls E 106 [.val (.int .u8 c)] [] g d (dI 2) [] := by
 have x0 : (97 ≤ c) = False := eq_false (by omega)
 have x1 : (c ≤ 122) = True := eq_true (by omega)
 have x2 : (65 ≤ c) = False := eq_false (by omega)
 have x3 : (c ≤ 90) = True := eq_true (by omega)
 have x4 : (48 ≤ c) = True := eq_true (by omega)
 have x5 : (c ≤ 57) = True := eq_true (by omega)
 have x6 : (c = 95) = False := eq_false (by omega)
 have x7 : (c = 9) = False := eq_false (by omega)
 have x8 : (c = 10) = False := eq_false (by omega)
 have x9 : (c = 13) = False := eq_false (by omega)
 have x10 : (c = 32) = False := eq_false (by omega)
 refine acalls_of_awp (fn := Tryz.f106) (N := 39) Tryz.call106 Tryz.func106 rfl rfl (by simp) ?_
 simp only [go_sem]
 refine awp_seq_k (fun K1 hK1 => ?_)
 refine awp_plain 1 (by kernel_rfl) rfl (fun g0 hg0 => ?_)
 simp only [go_sem]
 refine hK1 _ ?_
 refine awp_seq_k (fun K2 hK2 => ?_)
 refine awp_seq_k (fun K3 hK3 => ?_)
 refine awp_plain 14 (by kernel_rfl) rfl (fun g1 hg1 => ?_)
 simp only [go_sem, x0, x2, decide_false]
 refine hK3 _ ?_
 refine awp_f rfl ?_
 refine awp_skip ?_
 refine hK2 _ ?_
 refine awp_seq_k (fun K4 hK4 => ?_)
 refine awp_seq_k (fun K5 hK5 => ?_)
 refine awp_plain 6 (by kernel_rfl) rfl (fun g3 hg3 => ?_)
 simp only [go_sem, x4, x5, decide_true]
 refine hK5 _ ?_
 refine awp_t rfl ?_
 refine awp_seq_k (fun K6 hK6 => ?_)
 refine awp_plain 1 (by kernel_rfl) rfl (fun g4 hg4 => ?_)
 simp only [go_sem]
 refine hK6 _ ?_
 refine awp_ret ?_
 refine ends_ev rfl ?_
 simp only [go_sem]
 exact Co.of_eq rfl
theorem class_3 (c : Int) (h : c = 95) (g d : Nat) : ACalls E 106 [.val (.int .u8 c)] [] g d (dI 3) [] := by
 have x0 : (97 ≤ c) = False := eq_false (by omega)
 have x1 : (c ≤ 122) = True := eq_true (by omega)
 have x2 : (65 ≤ c) = True := eq_true (by omega)
 have x3 : (c ≤ 90) = False := eq_false (by omega)
 have x4 : (48 ≤ c) = True := eq_true (by omega)
 have x5 : (c ≤ 57) = False := eq_false (by omega)
 have x6 : (c = 95) = True := eq_true (by omega)
 have x7 : (c = 9) = False := eq_false (by omega)
 have x8 : (c = 10) = False := eq_false (by omega)
 have x9 : (c = 13) = False := eq_false (by omega)
 have x10 : (c = 32) = False := eq_false (by omega)
 refine acalls_of_awp (fn := Tryz.f106) (N := 39) Tryz.call106 Tryz.func106 rfl rfl (by simp) ?_
 simp only [go_sem]
 refine awp_seq_k (fun K1 hK1 => ?_)
 refine awp_plain 1 (by kernel_rfl) rfl (fun g0 hg0 => ?_)
 simp only [go_sem]
 refine hK1 _ ?_
 refine awp_seq_k (fun K2 hK2 => ?_)
 refine awp_seq_k (fun K3 hK3 => ?_)
 refine awp_plain 14 (by kernel_rfl) rfl (fun g1 hg1 => ?_)
 simp only [go_sem, x0, x2, x3, decide_true, decide_false]
 refine hK3 _ ?_
 refine awp_f rfl ?_
 refine awp_skip ?_
 refine hK2 _ ?_
 refine awp_seq_k (fun K4 hK4 => ?_)
 refine awp_seq_k (fun K5 hK5 => ?_)
 refine awp_plain 6 (by kernel_rfl) rfl (fun g3 hg3 => ?_)
 simp only [go_sem, x4, x5, decide_true, decide_false]
 refine hK5 _ ?_
 refine awp_f rfl ?_
 refine awp_skip ?_
 refine hK4 _ ?_
 refine awp_seq_k (fun K6 hK6 => ?_)
 refine awp_seq_k (fun K7 hK7 => ?_)
 refine awp_plain 2 (by kernel_rfl) rfl (fun g5 hg5 => ?_)
 simp only [go_sem, x6, decide_true]
 refine hK7 _ ?_
 refine awp_t rfl ?_
 refine awp_seq_k (fun K8 hK8 => ?_)
 refine awp_plain 1 (by kernel_rfl) rfl (fun g6 hg6 => ?_)
 simp only [go_sem]
 refine hK8 _ ?_
 refine awp_ret ?_
 refine ends_ev rfl ?_
 simp only [go_sem]
 exact Co.of_eq rfl
theorem class_4 (c : Int) (h : c = 9) (g d : Nat) : ACalls E 106 [.val (.int .u8 c)] [] g d (dI 4) [] := by
 have x0 : (97 ≤ c) = False := eq_false (by omega)
 have x1 : (c ≤ 122) = True := eq_true (by omega)
 have x2 : (65 ≤ c) = False := eq_false (by omega)
 have x3 : (c ≤ 90) = True := eq_true (by omega)
 have x4 : (48 ≤ c) = False := eq_false (by omega)
 have x5 : (c ≤ 57) = True := eq_true (by omega)
 have x6 : (c = 95) = False := eq_false (by omega)
 have x7 : (c = 9) = True := eq_true (by omega)
 have x8 : (c = 10) = False := eq_false (by omega)
 have x9 : (c = 13) = False := eq_false (by omega)
 have x10 : (c = 32) = False := eq_false (by omega)
 refine acalls_of_awp (fn := Tryz.f106) (N := 39) Tryz.call106 Tryz.func106 rfl rfl (by simp) ?_
 simp only [go_sem]
 refine awp_seq_k (fun K1 hK1 => ?_)
 refine awp_plain 1 (by kernel_rfl) rfl (fun g0 hg0 => ?_)
 simp only [go_sem]
 refine hK1 _ ?_
 refine awp_seq_k (fun K2 hK2 => ?_)
 refine awp_seq_k (fun K3 hK3 => ?_)
 refine awp_plain 14 (by kernel_rfl) rfl (fun g1 hg1 => ?_)
 simp only [go_sem, x0, x2, decide_false]
 refine hK3 _ ?_
 refine awp_f rfl ?_
 refine awp_skip ?_
 refine hK2 _ ?_
 refine awp_seq_k (fun K4 hK4 => ?_)
 refine awp_seq_k (fun K5 hK5 => ?_)
 refine awp_plain 6 (by kernel_rfl) rfl (fun g3 hg3 => ?_)
 simp only [go_sem, x4, decide_false]
 refine hK5 _ ?_
 refine awp_f rfl ?_
 refine awp_skip ?_
 refine hK4 _ ?_
 refine awp_seq_k (fun K6 hK6 => ?_)
 refine awp_seq_k (fun K7 hK7 => ?_)
 refine awp_plain 2 (by kernel_rfl) rfl (fun g5 hg5 => ?_)
 simp only [go_sem, x6, decide_false]
 refine hK7 _ ?_
 refine awp_f rfl ?_
 refine awp_skip ?_
 refine hK6 _ ?_
 refine awp_seq_k (fun K8 hK8 => ?_)
 refine awp_seq_k (fun K9 hK9 => ?_)
 refine awp_plain 14 (by kernel_rfl) rfl (fun g7 hg7 => ?_)
 simp only [go_sem, x7, decide_true]
 refine hK9 _ ?_
 refine awp_t rfl ?_
 refine awp_seq_k (fun K10 hK10 => ?_)
 refine awp_plain 1 (by kernel_rfl) rfl (fun g8 hg8 => ?_)
 simp only [go_sem]
 refine hK10 _ ?_
 refine awp_ret ?_
 refine ends_ev rfl ?_
 simp only [go_sem]
 exact Co.of_eq rfl
theorem class_5 (c : Int) (h : c = 10) (g d : Nat) : ACalls E 106 [.val (.int .u8 c)] [] g d (dI 4) [] := by
 have x0 : (97 ≤ c) = False := eq_false (by omega)
 have x1 : (c ≤ 122) = True := eq_true (by omega)
 have x2 : (65 ≤ c) = False := eq_false (by omega)
 have x3 : (c ≤ 90) = True := eq_true (by omega)
 have x4 : (48 ≤ c) = False := eq_false (by omega)
 have x5 : (c ≤ 57) = True := eq_true (by omega)
 have x6 : (c = 95) = False := eq_false (by omega)
 have x7 : (c = 9) = False := eq_false (by omega)
 have x8 : (c = 10) = True := eq_true (by omega)
 have x9 : (c = 13) = False := eq_false (by omega)
 have x10 : (c = 32) = False := eq_false (by omega)
 refine acalls_of_awp (fn := Tryz.f106) (N := 39) Tryz.call106 Tryz.func106 rfl rfl (by simp) ?_
 simp only [go_sem]
 refine awp_seq_k (fun K1 hK1 => ?_)
 refine awp_plain 1 (by kernel_rfl) rfl (fun g0 hg0 => ?_)
 simp only [go_sem]
 refine hK1 _ ?_
 refine awp_seq_k (fun K2 hK2 => ?_)
 refine awp_seq_k (fun K3 hK3 => ?_)
 refine awp_plain 14 (by kernel_rfl) rfl (fun g1 hg1 => ?_)
 simp only [go_sem, x0, x2, decide_false]
 refine hK3 _ ?_
 refine awp_f rfl ?_
 refine awp_skip ?_
 refine hK2 _ ?_
 refine awp_seq_k (fun K4 hK4 => ?_)
 refine awp_seq_k (fun K5 hK5 => ?_)
 refine awp_plain 6 (by kernel_rfl) rfl (fun g3 hg3 => ?_)
 simp only [go_sem, x4, decide_false]
 refine hK5 _ ?_
 refine awp_f rfl ?_
 refine awp_skip ?_
 refine hK4 _ ?_
 refine awp_seq_k (fun K6 hK6 => ?_)
 refine awp_seq_k (fun K7 hK7 => ?_)
 refine awp_plain 2 (by kernel_rfl) rfl (fun g5 hg5 => ?_)
 simp only [go_sem, x6, decide_false]
 refine hK7 _ ?_
 refine awp_f rfl ?_
 refine awp_skip ?_
 refine hK6 _ ?_
 refine awp_seq_k (fun K8 hK8 => ?_)
 refine awp_seq_k (fun K9 hK9 => ?_)
 refine awp_plain 14 (by kernel_rfl) rfl (fun g7 hg7 => ?_)
 simp only [go_sem, x7, x8, decide_true, decide_false]
 refine hK9 _ ?_
 refine awp_t rfl ?_
 refine awp_seq_k (fun K10 hK10 => ?_)
 refine awp_plain 1 (by kernel_rfl) rfl (fun g8 hg8 => ?_)
 simp only [go_sem]
 refine hK10 _ ?_
 refine awp_ret ?_
 refine ends_ev rfl ?_
 simp only [go_sem]
 exact Co.of_eq rfl
theorem class_6 (c : Int) (h : c = 13) (g d : Nat) : ACalls E 106 [.val (.int .u8 c)] [] g d (dI 4) [] := by
 have x0 : (97 ≤ c) = False := eq_false (by omega)
 have x1 : (c ≤ 122) = True := eq_true (by omega)
 have x2 : (65 ≤ c) = False := eq_false (by omega)
 have x3 : (c ≤ 90) = True := eq_true (by omega)
 have x4 : (48 ≤ c) = False := eq_false (by omega)
 have x5 : (c ≤ 57) = True := eq_true (by omega)
 have x6 : (c = 95) = False := eq_false (by omega)
 have x7 : (c = 9) = False := eq_false (by omega)
 have x8 : (c = 10) = False := eq_false (by omega)
 have x9 : (c = 13) = True := eq_true (by omega)
 have x10 : (c = 32) = False := eq_false (by omega)
 refine acalls_of_awp (fn := Tryz.f106) (N := 39) Tryz.call106 Tryz.func106 rfl rfl (by simp) ?_
 simp only [go_sem]
 refine awp_seq_k (fun K1 hK1 => ?_)
 refine awp_plain 1 (by kernel_rfl) rfl (fun g0 hg0 => ?_)
 simp only [go_sem]
 refine hK1 _ ?_
 refine awp_seq_k (fun K2 hK2 => ?_)
 refine awp_seq_k (fun K3 hK3 => ?_)
 refine awp_plain 14 (by kernel_rfl) rfl (fun g1 hg1 => ?_)
 simp only [go_sem, x0, x2, decide_false]
 refine hK3 _ ?_
 refine awp_f rfl ?_
 refine awp_skip ?_
 refine hK2 _ ?_
 refine awp_seq_k (fun K4 hK4 => ?_)
 refine awp_seq_k (fun K5 hK5 => ?_)
 refine awp_plain 6 (by kernel_rfl) rfl (fun g3 hg3 => ?_)
 simp only [go_sem, x4, decide_false]
 refine hK5 _ ?_
 refine awp_f rfl ?_
 refine awp_skip ?_
 refine hK4 _ ?_
 refine awp_seq_k (fun K6 hK6 => ?_)
 refine awp_seq_k (fun K7 hK7 => ?_)
 refine awp_plain 2 (by kernel_rfl) rfl (fun g5 hg5 => ?_)
 simp only [go_sem, x6, decide_false]
 refine hK7 _ ?_
 refine awp_f rfl ?_
 refine awp_skip ?_
 refine hK6 _ ?_
 refine awp_seq_k (fun K8 hK8 => ?_)
 refine awp_seq_k (fun K9 hK9 => ?_)
 refine awp_plain 14 (by kernel_rfl) rfl (fun g7 hg7 => ?_)
 simp only [go_sem, x7, x8, x9, decide_true, decide_false]
 refine hK9 _ ?_
 refine awp_t rfl ?_
 refine awp_seq_k (fun K10 hK10 => ?_)
 refine awp_plain 1 (by kernel_rfl) rfl (fun g8 hg8 => ?_)
 simp only [go_sem]
 refine hK10 _ ?_
 refine awp_ret ?_
 refine ends_ev rfl ?_
 simp only [go_sem]
 exact Co.of_eq rfl
theorem class_7 (c : Int) (h : c = 32) (g d : Nat) : ACalls E 106 [.val (.int .u8 c)] [] g d (dI 4) [] := by
 have x0 : (97 ≤ c) = False := eq_false (by omega)
 have x1 : (c ≤ 122) = True := eq_true (by omega)
 have x2 : (65 ≤ c) = False := eq_false (by omega)
 have x3 : (c ≤ 90) = True := eq_true (by omega)
 have x4 : (48 ≤ c) = False := eq_false (by omega)
 have x5 : (c ≤ 57) = True := eq_true (by omega)
 have x6 : (c = 95) = False := eq_false (by omega)
 have x7 : (c = 9) = False := eq_false (by omega)
 have x8 : (c = 10) = False := eq_false (by omega)
 have x9 : (c = 13) = False := eq_false (by omega)
 have x10 : (c = 32) = True := eq_true (by omega)
 refine acalls_of_awp (fn := Tryz.f106) (N := 39) Tryz.call106 Tryz.func106 rfl rfl (by simp) ?_
 simp only [go_sem]
 refine awp_seq_k (fun K1 hK1 => ?_)
 refine awp_plain 1 (by kernel_rfl) rfl (fun g0 hg0 => ?_)
 simp only [go_sem]
 refine hK1 _ ?_
 refine awp_seq_k (fun K2 hK2 => ?_)
 refine awp_seq_k (fun K3 hK3 => ?_)
 refine awp_plain 14 (by kernel_rfl) rfl (fun g1 hg1 => ?_)
 simp only [go_sem, x0, x2, decide_false]
 refine hK3 _ ?_
 refine awp_f rfl ?_
 refine awp_skip ?_
 refine hK2 _ ?_
 refine awp_seq_k (fun K4 hK4 => ?_)
 refine awp_seq_k (fun K5 hK5 => ?_)
 refine awp_plain 6 (by kernel_rfl) rfl (fun g3 hg3 => ?_)
 simp only [go_sem, x4, decide_false]
 refine hK5 _ ?_
 refine awp_f rfl ?_
 refine awp_skip ?_
 refine hK4 _ ?_
 refine awp_seq_k (fun K6 hK6 => ?_)
 refine awp_seq_k (fun K7 hK7 => ?_)
 refine awp_plain 2 (by kernel_rfl) rfl (fun g5 hg5 => ?_)
 simp only [go_sem, x6, decide_false]
 refine hK7 _ ?_
 refine awp_f rfl ?_
 refine awp_skip ?_
 refine hK6 _ ?_
 refine awp_seq_k (fun K8 hK8 => ?_)
 refine awp_seq_k (fun K9 hK9 => ?_)
 refine awp_plain 14 (by kernel_rfl) rfl (fun g7 hg7 => ?_)
 simp only [go_sem, x7, x8, x9, x10, decide_true, decide_false]
 refine hK9 _ ?_
 refine awp_t rfl ?_
 refine awp_seq_k (fun K10 hK10 => ?_)
 refine awp_plain 1 (by kernel_rfl) rfl (fun g8 hg8 => ?_)
 simp only [go_sem]
 refine hK10 _ ?_
 refine awp_ret ?_
 refine ends_ev rfl ?_
 simp only [go_sem]
 exact Co.of_eq rfl
theorem class_8 (c : Int) (h : 122 < c) (g d : Nat) : ACalls E 106 [.val (.int .u8 c)] [] g d (dI 0) [] := by
 have x0 : (97 ≤ c) = True := eq_true (by omega)
 have x1 : (c ≤ 122) = False := eq_false (by omega)
 have x2 : (65 ≤ c) = True := eq_true (by omega)
 have x3 : (c ≤ 90) = False := eq_false (by omega)
 have x4 : (48 ≤ c) = True := eq_true (by omega)
 have x5 : (c ≤ 57) = False := eq_false (by omega)
 have x6 : (c = 95) = False := eq_false (by omega)
 have x7 : (c = 9) = False := eq_false (by omega)
 have x8 : (c = 10) = False := eq_false (by omega)
 have x9 : (c = 13) = False := eq_false (by omega)
 have x10 : (c = 32) = False := eq_false (by omega)
 refine acalls_of_awp (fn := Tryz.f106) (N := 39) Tryz.call106 Tryz.func106 rfl rfl (by simp) ?_
 simp only [go_sem]
 refine awp_seq_k (fun K1 hK1 => ?_)
 refine awp_plain 1 (by kernel_rfl) rfl (fun g0 hg0 => ?_)
 simp only [go_sem]
 refine hK1 _ ?_
 refine awp_seq_k (fun K2 hK2 => ?_)
 refine awp_seq_k (fun K3 hK3 => ?_)
 refine awp_plain 14 (by kernel_rfl) rfl (fun g1 hg1 => ?_)
 simp only [go_sem, x0, x1, x2, x3, decide_true, decide_false]
 refine hK3 _ ?_
 refine awp_f rfl ?_
 refine awp_skip ?_
 refine hK2 _ ?_
 refine awp_seq_k (fun K4 hK4 => ?_)
 refine awp_seq_k (fun K5 hK5 => ?_)
 refine awp_plain 6 (by kernel_rfl) rfl (fun g3 hg3 => ?_)
 simp only [go_sem, x4, x5, decide_true, decide_false]
 refine hK5 _ ?_
 refine awp_f rfl ?_
 refine awp_skip ?_
 refine hK4 _ ?_
 refine awp_seq_k (fun K6 hK6 => ?_)
 refine awp_seq_k (fun K7 hK7 => ?_)
 refine awp_plain 2 (by kernel_rfl) rfl (fun g5 hg5 => ?_)
 simp only [go_sem, x6, decide_false]
 refine hK7 _ ?_
 refine awp_f rfl ?_
 refine awp_skip ?_
 refine hK6 _ ?_
 refine awp_seq_k (fun K8 hK8 => ?_)
 refine awp_seq_k (fun K9 hK9 => ?_)
 refine awp_plain 14 (by kernel_rfl) rfl (fun g7 hg7 => ?_)
 simp only [go_sem, x7, x8, x9, x10, decide_false]
 refine hK9 _ ?_
 refine awp_f rfl ?_
 refine awp_skip ?_
 refine hK8 _ ?_
 refine awp_seq_k (fun K10 hK10 => ?_)
 refine awp_plain 1 (by kernel_rfl) rfl (fun g9 hg9 => ?_)
 simp only [go_sem]
 refine hK10 _ ?_
 refine awp_ret ?_
 refine ends_ev rfl ?_
 simp only [go_sem]
 exact Co.of_eq rfl
theorem class_9 (c : Int) (h : 91 ≤ c ∧ c ≤ 96 ∧ c ≠ 95) (g d : Nat) : ACalls E 106 [.val (.int .u8 c)] [] g d (dI 0) [] := by
 have x0 : (97 ≤ c) = False := eq_false (by omega)
 have x1 : (c ≤ 122) = True := eq_true (by omega)
 have x2 : (65 ≤ c) = True := eq_true (by omega)
 have x3 : (c ≤ 90) = False := eq_false (by omega)
 have x4 : (48 ≤ c) = True := eq_true (by omega)
 have x5 : (c ≤ 57) = False := eq_false (by omega)
 have x6 : (c = 95) = False := eq_false (by omega)
 have x7 : (c = 9) = False := eq_false (by omega)
 have x8 : (c = 10) = False := eq_false (by omega)
 have x9 : (c = 13) = False := eq_false (by omega)
 have x10 : (c = 32) = False := eq_false (by omega)
 refine acalls_of_awp (fn := Tryz.f106) (N := 39) Tryz.call106 Tryz.func106 rfl rfl (by simp) ?_
 simp only [go_sem]
 refine awp_seq_k (fun K1 hK1 => ?_)
 refine awp_plain 1 (by kernel_rfl) rfl (fun g0 hg0 => ?_)
 simp only [go_sem]
 refine hK1 _ ?_
 refine awp_seq_k (fun K2 hK2 => ?_)
 refine awp_seq_k (fun K3 hK3 => ?_)
 refine awp_plain 14 (by kernel_rfl) rfl (fun g1 hg1 => ?_)
 simp only [go_sem, x0, x2, x3, decide_true, decide_false]
 refine hK3 _ ?_
 refine awp_f rfl ?_
 refine awp_skip ?_
 refine hK2 _ ?_
 refine awp_seq_k (fun K4 hK4 => ?_)
 refine awp_seq_k (fun K5 hK5 => ?_)
 refine awp_plain 6 (by kernel_rfl) rfl (fun g3 hg3 => ?_)
 simp only [go_sem, x4, x5, decide_true, decide_false]
 refine hK5 _ ?_
 refine awp_f rfl ?_
 refine awp_skip ?_
 refine hK4 _ ?_
 refine awp_seq_k (fun K6 hK6 => ?_)
 refine awp_seq_k (fun K7 hK7 => ?_)
 refine awp_plain 2 (by kernel_rfl) rfl (fun g5 hg5 => ?_)
 simp only [go_sem, x6, decide_false]
 refine hK7 _ ?_
 refine awp_f rfl ?_
 refine awp_skip ?_
 refine hK6 _ ?_
 refine awp_seq_k (fun K8 hK8 => ?_)
 refine awp_seq_k (fun K9 hK9 => ?_)
 refine awp_plain 14 (by kernel_rfl) rfl (fun g7 hg7 => ?_)
 simp only [go_sem, x7, x8, x9, x10, decide_false]
 refine hK9 _ ?_
 refine awp_f rfl ?_
 refine awp_skip ?_
 refine hK8 _ ?_
 refine awp_seq_k (fun K10 hK10 => ?_)
 refine awp_plain 1 (by kernel_rfl) rfl (fun g9 hg9 => ?_)
 simp only [go_sem]
 refine hK10 _ ?_
 refine awp_ret ?_
 refine ends_ev rfl ?_
 simp only [go_sem]
 exact Co.of_eq rfl
theorem class_10 (c : Int) (h : 58 ≤ c ∧ c ≤ 64) (g d : Nat) : ACalls E 106 [.val (.int .u8 c)] [] g d (dI 0) [] := by
 have x0 : (97 ≤ c) = False := eq_false (by omega)
 have x1 : (c ≤ 122) = True := eq_true (by omega)
 have x2 : (65 ≤ c) = False := eq_false (by omega)
 have x3 : (c ≤ 90) = True := eq_true (by omega)
 have x4 : (48 ≤ c) = True := eq_true (by omega)
 have x5 : (c ≤ 57) = False := eq_false (by omega)
 have x6 : (c = 95) = False := eq_false (by omega)
 have x7 : (c = 9) = False := eq_false (by omega)
 have x8 : (c = 10) = False := eq_false (by omega)
 have x9 : (c = 13) = False := eq_false (by omega)
 have x10 : (c = 32) = False := eq_false (by omega)
 refine acalls_of_awp (fn := Tryz.f106) (N := 39) Tryz.call106 Tryz.func106 rfl rfl (by simp) ?_
 simp only [go_sem]
 refine awp_seq_k (fun K1 hK1 => ?_)
 refine awp_plain 1 (by kernel_rfl) rfl (fun g0 hg0 => ?_)
 simp only [go_sem]
 refine hK1 _ ?_
 refine awp_seq_k (fun K2 hK2 => ?_)
 refine awp_seq_k (fun K3 hK3 => ?_)
 refine awp_plain 14 (by kernel_rfl) rfl (fun g1 hg1 => ?_)
 simp only [go_sem, x0, x2, decide_false]
 refine hK3 _ ?_
 refine awp_f rfl ?_
 refine awp_skip ?_
 refine hK2 _ ?_
 refine awp_seq_k (fun K4 hK4 => ?_)
 refine awp_seq_k (fun K5 hK5 => ?_)
 refine awp_plain 6 (by kernel_rfl) rfl (fun g3 hg3 => ?_)
 simp only [go_sem, x4, x5, decide_true, decide_false]
 refine hK5 _ ?_
 refine awp_f rfl ?_
 refine awp_skip ?_
 refine hK4 _ ?_
 refine awp_seq_k (fun K6 hK6 => ?_)
 refine awp_seq_k (fun K7 hK7 => ?_)
 refine awp_plain 2 (by kernel_rfl) rfl (fun g5 hg5 => ?_)
 simp only [go_sem, x6, decide_false]
 refine hK7 _ ?_
 refine awp_f rfl ?_
 refine awp_skip ?_
 refine hK6 _ ?_
 refine awp_seq_k (fun K8 hK8 => ?_)
 refine awp_seq_k (fun K9 hK9 => ?_)
 refine awp_plain 14 (by kernel_rfl) rfl (fun g7 hg7 => ?_)
 simp only [go_sem, x7, x8, x9, x10, decide_false]
 refine hK9 _ ?_
 refine awp_f rfl ?_
 refine awp_skip ?_
 refine hK8 _ ?_
 refine awp_seq_k (fun K10 hK10 => ?_)
 refine awp_plain 1 (by kernel_rfl) rfl (fun g9 hg9 => ?_)
 simp only [go_sem]
 refine hK10 _ ?_
 refine awp_ret ?_
 refine ends_ev rfl ?_
 simp only [go_sem]
 exact Co.of_eq rfl
theorem class_11 (c : Int) (h : c < 48 ∧ c ≠ 9 ∧ c ≠ 10 ∧ c ≠ 13 ∧ c ≠ 32) (g d : Nat) : ACalls E 106 [.val (.int .u8 c)] [] g d (dI 0) [] := by
 have x0 : (97 ≤ c) = False := eq_false (by omega)
 have x1 : (c ≤ 122) = True := eq_true (by omega)
 have x2 : (65 ≤ c) = False := eq_false (by omega)
 have x3 : (c ≤ 90) = True := eq_true (by omega)
 have x4 : (48 ≤ c) = False := eq_false (by omega)
 have x5 : (c ≤ 57) = True := eq_true (by omega)
 have x6 : (c = 95) = False := eq_false (by omega)
 have x7 : (c = 9) = False := eq_false (by omega)
 have x8 : (c = 10) = False := eq_false (by omega)
 have x9 : (c = 13) = False := eq_false (by omega)
 have x10 : (c = 32) = False := eq_false (by omega)
 refine acalls_of_awp (fn := Tryz.f106) (N := 39) Tryz.call106 Tryz.func106 rfl rfl (by simp) ?_
 simp only [go_sem]
 refine awp_seq_k (fun K1 hK1 => ?_)
 refine awp_plain 1 (by kernel_rfl) rfl (fun g0 hg0 => ?_)
 simp only [go_sem]
 refine hK1 _ ?_
 refine awp_seq_k (fun K2 hK2 => ?_)
 refine awp_seq_k (fun K3 hK3 => ?_)
 refine awp_plain 14 (by kernel_rfl) rfl (fun g1 hg1 => ?_)
 simp only [go_sem, x0, x2, decide_false]
 refine hK3 _ ?_
 refine awp_f rfl ?_
 refine awp_skip ?_
 refine hK2 _ ?_
 refine awp_seq_k (fun K4 hK4 => ?_)
 refine awp_seq_k (fun K5 hK5 => ?_)
 refine awp_plain 6 (by kernel_rfl) rfl (fun g3 hg3 => ?_)
 simp only [go_sem, x4, decide_false]
 refine hK5 _ ?_
 refine awp_f rfl ?_
 refine awp_skip ?_
 refine hK4 _ ?_
 refine awp_seq_k (fun K6 hK6 => ?_)
 refine awp_seq_k (fun K7 hK7 => ?_)
 refine awp_plain 2 (by kernel_rfl) rfl (fun g5 hg5 => ?_)
 simp only [go_sem, x6, decide_false]
 refine hK7 _ ?_
 refine awp_f rfl ?_
 refine awp_skip ?_
 refine hK6 _ ?_
 refine awp_seq_k (fun K8 hK8 => ?_)
 refine awp_seq_k (fun K9 hK9 => ?_)
 refine awp_plain 14 (by kernel_rfl) rfl (fun g7 hg7 => ?_)
 simp only [go_sem, x7, x8, x9, x10, decide_false]
 refine hK9 _ ?_
 refine awp_f rfl ?_
 refine awp_skip ?_
 refine hK8 _ ?_
 refine awp_seq_k (fun K10 hK10 => ?_)
 refine awp_plain 1 (by kernel_rfl) rfl (fun g9 hg9 => ?_)
 simp only [go_sem]
 refine hK10 _ ?_
 refine awp_ret ?_
 refine ends_ev rfl ?_
 simp only [go_sem]
 exact Co.of_eq rfl
theorem class_ex (c : Int) : ∃ k : Int, ∀ g d, ACalls E 106 [.val (.int .u8 c)] [] g d (dI k) [] := by
 have hh : (97 ≤ c ∧ c ≤ 122) ∨ (65 ≤ c ∧ c ≤ 90) ∨ (48 ≤ c ∧ c ≤ 57) ∨ (c = 95) ∨ (c = 9) ∨ (c = 10) ∨ (c = 13) ∨ (c = 32) ∨ (122 < c) ∨ (91 ≤ c ∧ c ≤ 96 ∧ c ≠ 95) ∨ (58 ≤ c ∧ c ≤ 64) ∨ (c < 48 ∧ c ≠ 9 ∧ c ≠ 10 ∧ c ≠ 13 ∧ c ≠ 32) := by omega
 rcases hh with h | h | h | h | h | h | h | h | h | h | h | h
 ·exact ⟨1, class_0 c h⟩
 ·exact ⟨1, class_1 c h⟩
 ·exact ⟨2, class_2 c h⟩
 ·exact ⟨3, class_3 c h⟩
 ·exact ⟨4, class_4 c h⟩
 ·exact ⟨4, class_5 c h⟩
 ·exact ⟨4, class_6 c h⟩
 ·exact ⟨4, class_7 c h⟩
 ·exact ⟨0, class_8 c h⟩
 ·exact ⟨0, class_9 c h⟩
 ·exact ⟨0, class_10 c h⟩
 ·exact ⟨0, class_11 c h⟩
end Go.Proofs.T
