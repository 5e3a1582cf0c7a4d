/- A part of the proof, under no conditions of its own: B6. -/
import Derived.Test.YtjhencaobpihnaaGreatDoorB5
namespace Go.Proofs.T
open Go Go.Ab Go.RowKit

/-! ## The reference: declarations by name -/

theorem dot_ne (a : Str) : (ByteArray.empty : Str) ≠ ⟨#[46]⟩ ++ a := by
  intro h
  have := congrArg ByteArray.size h
  simp [ByteArray.size_append] at this
  have e : (⟨#[46]⟩ : ByteArray).size = 1 := rfl
  omega
theorem dot_inj {a b : Str} : (⟨#[46]⟩ ++ a : Str) = ⟨#[46]⟩ ++ b ↔ a = b := by
  constructor
  · intro h
    have := congrArg (fun x : ByteArray => x.data.toList) h
    simp [ByteArray.data_append] at this
    obtain ⟨⟨a⟩⟩ := a
    obtain ⟨⟨b⟩⟩ := b
    simpa using this
  · rintro rfl; rfl
def isDe (d : Dec) (n : Str) : Bool := decide ((d.kind = 1 ∨ d.kind = 2) ∧ d.name = n)
def isMe (d : Dec) (n m : Str) : Bool := decide (d.kind = 3 ∧ d.name = n ∧ d.sig.name = m)
theorem dKey_ty (d : Dec) (n : Str) : decide (dKey d = some (n, ByteArray.empty)) = isDe d n := by
  unfold dKey isDe
  by_cases h : d.kind = 1 ∨ d.kind = 2
  · simp [h]
  · simp only [h, if_false, false_and, decide_false]
    split
    · simp [Ne.symm (dot_ne d.sig.name)]
    · simp
theorem dKey_me (d : Dec) (n m : Str) : decide (dKey d = some (n, ⟨#[46]⟩ ++ m)) = isMe d n m := by
  unfold dKey isMe
  by_cases h : d.kind = 1 ∨ d.kind = 2
  · have : ¬ d.kind = 3 := by omega
    simp [h, this, dot_ne m]
  · simp only [h, if_false]
    by_cases h3 : d.kind = 3
    · simp [h3]
    · simp [h3]
def tyFind (p : Prg) (n : Str) : Option Nat := p.decls.findIdx? fun d => isDe d n
def meFind (p : Prg) (n m : Str) : Option Nat := p.decls.findIdx? fun d => isMe d n m
theorem tfind_ty (p : Prg) (n : Str) : tfind p.decls (n, ByteArray.empty) = tyFind p n := by
  unfold tfind tyFind
  congr 1
  funext d
  exact dKey_ty d n
theorem tfind_me (p : Prg) (n m : Str) : tfind p.decls (n, ⟨#[46]⟩ ++ m) = meFind p n m := by
  unfold tfind meFind
  congr 1
  funext d
  exact dKey_me d n m


theorem find11_calls (p : Prg) (n : Str) (hl : p.decls.length ≤ 2000) (g d : Nat) : ACalls E 54 [encPr p, encS n] [] g d (dI (optI (tyFind p n))) [] := by
  unfold tyFind
  refine acalls_of_awp (fn := Tryz.f54) (N := 40) Tryz.call54 Tryz.func54 rfl rfl (by simp) ?_
  simp only [go_sem]
  refine awp_seq_k (fun K1 hK1 => ?_)
  refine awp_plain 2 (by kernel_rfl) rfl (fun g0 hg0 => ?_)
  simp only [go_sem, List.nil_append]
  refine hK1 _ ?_
  refine awp_seq_k (fun K2 hK2 => ?_)
  refine awp_seq_k (fun K3 hK3 => ?_)
  refine awp_plain 1 (by kernel_rfl) rfl (fun g1 hg1 => ?_)
  simp only [go_sem, List.nil_append]
  refine hK3 _ ?_
  refine awp_block ?_
  refine awp_loop (fun m s => ∃ k, k ≤ p.decls.length ∧ m = p.decls.length - k ∧ List.findIdx? (fun d => isDe d n) p.decls = (List.findIdx? (fun d => isDe d n) (p.decls.drop k)).map (· + k) ∧
        Le { env := [(1, encS n), (2, .ptr ⟨g0, 2, 0⟩ 0), (5, dN k)], σ := [(⟨g0, 2, 0⟩, .box 30 (prC p))] } s) p.decls.length ?_ ?_
  · refine ⟨0, Nat.zero_le _, rfl, by simp, le_of ?_⟩
    simp only [go_sem, prC, exC, List.cons_append, List.nil_append, prC, exC, List.cons_append, List.nil_append]
    trivial
  · rintro mm s ⟨k, hk, rfl, hf, hle⟩
    refine awp_keep hle ?_
    clear hle
    by_cases h : k < p.decls.length
    · have hf0 := hf
      rw [findD _ _ _ h] at hf
      refine awp_seq_k (fun K4 hK4 => ?_)
      refine awp_seq_k (fun K5 hK5 => ?_)
      refine awp_plain 5 (by kernel_rfl) rfl (fun g2 hg2 => ?_)
      simp only [go_sem, prC, exC, List.cons_append, List.nil_append, prC, exC, List.cons_append, List.nil_append, h]
      refine hK5 _ ?_
      refine awp_t rfl ?_
      refine awp_skip ?_
      refine hK4 _ ?_
      refine awp_seq_k (fun K6 hK6 => ?_)
      refine awp_block ?_
      refine awp_seq_k (fun K7 hK7 => ?_)
      cases hd : isDe p.decls[k] n with
      | true =>
        rw [hd, if_pos rfl] at hf
        have hd2 : (p.decls[k].kind = 1 ∨ p.decls[k].kind = 2) ∧ p.decls[k].name = n := of_decide_eq_true hd
        obtain ⟨ho, hn⟩ := hd2
        by_cases h1 : p.decls[k].kind = 1
        · refine awp_plain 26 (by kernel_rfl) rfl (fun g4 hg4 => ?_)
          simp only [go_sem, h1, hn, decide_true, exC, List.cons_append, List.nil_append, exC, List.cons_append, List.nil_append, deC, siC, getM h]
          refine hK7 _ ?_
          refine awp_t rfl ?_
          refine awp_seq_k (fun K8 hK8 => ?_)
          refine awp_plain 2 (by kernel_rfl) rfl (fun g5 hg5 => ?_)
          simp only [go_sem, List.nil_append, List.nil_append]
          refine hK8 _ ?_
          refine awp_ret ?_
          rw [hf]
          refine ends_ev rfl ?_
          simp only [go_sem]
          exact Co.of_eq (by simp [optI])
        · have h2 : p.decls[k].kind = 2 := by omega
          have h3 : ¬ ((2 : Int) = 1) := by decide
          refine awp_plain 26 (by kernel_rfl) rfl (fun g4 hg4 => ?_)
          simp only [go_sem, h2, h3, hn, decide_true, decide_false, exC, List.cons_append, List.nil_append, exC, List.cons_append, List.nil_append, deC, siC, getM h]
          refine hK7 _ ?_
          refine awp_t rfl ?_
          refine awp_seq_k (fun K9 hK9 => ?_)
          refine awp_plain 2 (by kernel_rfl) rfl (fun g5 hg5 => ?_)
          simp only [go_sem, List.nil_append, List.nil_append]
          refine hK9 _ ?_
          refine awp_ret ?_
          rw [hf]
          refine ends_ev rfl ?_
          simp only [go_sem]
          exact Co.of_eq (by simp [optI])
      | false =>
        rw [hd, if_neg (by simp)] at hf
        have hd2 : ¬ ((p.decls[k].kind = 1 ∨ p.decls[k].kind = 2) ∧ p.decls[k].name = n) := of_decide_eq_false hd
        by_cases h1 : p.decls[k].kind = 1
        · have hn : ¬ p.decls[k].name = n := fun e => hd2 ⟨.inl h1, e⟩
          refine awp_plain 26 (by kernel_rfl) rfl (fun g4 hg4 => ?_)
          simp only [go_sem, h1, hn, decide_true, decide_false, exC, List.cons_append, List.nil_append, exC, List.cons_append, List.nil_append, deC, siC, getM h]
          refine hK7 _ ?_
          refine awp_f rfl ?_
          refine awp_skip ?_
          refine hK6 _ ?_
          refine awp_plain 3 (by kernel_rfl) rfl (fun g3 hg3 => ?_)
          simp only [go_sem, prC, exC, List.cons_append, List.nil_append, prC, exC, List.cons_append, List.nil_append]
          try simp (disch := omega) only [wrapN]
          refine ⟨_, ?_, k + 1, h, rfl, ?_, le_of ?_⟩
          · omega
          · rw [hf]; simp [Option.map_map, Function.comp_def, Nat.add_comm, Nat.add_left_comm]
          simp only [go_sem]
          omega
        · by_cases h2 : p.decls[k].kind = 2
          · have hn : ¬ p.decls[k].name = n := fun e => hd2 ⟨.inr h2, e⟩
            have h3 : ¬ ((2 : Int) = 1) := by decide
            refine awp_plain 26 (by kernel_rfl) rfl (fun g4 hg4 => ?_)
            simp only [go_sem, h2, h3, hn, decide_true, decide_false, exC, List.cons_append, List.nil_append, exC, List.cons_append, List.nil_append, deC, siC, getM h]
            refine hK7 _ ?_
            refine awp_f rfl ?_
            refine awp_skip ?_
            refine hK6 _ ?_
            refine awp_plain 3 (by kernel_rfl) rfl (fun g3 hg3 => ?_)
            simp only [go_sem, prC, exC, List.cons_append, List.nil_append, prC, exC, List.cons_append, List.nil_append]
            try simp (disch := omega) only [wrapN]
            refine ⟨_, ?_, k + 1, h, rfl, ?_, le_of ?_⟩
            · omega
            · rw [hf]; simp [Option.map_map, Function.comp_def, Nat.add_comm, Nat.add_left_comm]
            simp only [go_sem]
            omega
          · refine awp_plain 26 (by kernel_rfl) rfl (fun g4 hg4 => ?_)
            simp only [go_sem, h1, h2, decide_false, exC, List.cons_append, List.nil_append, exC, List.cons_append, List.nil_append, deC, siC, getM h]
            refine hK7 _ ?_
            refine awp_f rfl ?_
            refine awp_skip ?_
            refine hK6 _ ?_
            refine awp_plain 3 (by kernel_rfl) rfl (fun g3 hg3 => ?_)
            simp only [go_sem, prC, exC, List.cons_append, List.nil_append, prC, exC, List.cons_append, List.nil_append]
            try simp (disch := omega) only [wrapN]
            refine ⟨_, ?_, k + 1, h, rfl, ?_, le_of ?_⟩
            · omega
            · rw [hf]; simp [Option.map_map, Function.comp_def, Nat.add_comm, Nat.add_left_comm]
            simp only [go_sem]
            omega
    · rw [dropN p.decls k (by omega)] at hf
      refine awp_seq_k (fun K10 hK10 => ?_)
      refine awp_seq_k (fun K11 hK11 => ?_)
      refine awp_plain 5 (by kernel_rfl) rfl (fun g2 hg2 => ?_)
      simp only [go_sem, h, prC, exC, List.cons_append, List.nil_append, prC, exC, List.cons_append, List.nil_append]
      refine hK11 _ ?_
      refine awp_f rfl ?_
      refine awp_exit ?_
      refine hK2 _ ?_
      refine awp_seq_k (fun K12 hK12 => ?_)
      refine awp_plain 1 (by kernel_rfl) rfl (fun g6 hg6 => ?_)
      simp only [go_sem, List.nil_append, List.nil_append]
      refine hK12 _ ?_
      refine awp_ret ?_
      rw [hf]
      refine ends_ev rfl ?_
      simp only [go_sem]
      exact Co.of_eq (by simp [optI])

theorem findMe_calls (p : Prg) (n q : Str) (hl : p.decls.length ≤ 2000) (g d : Nat) : ACalls E 83 [encPr p, encS n, encS q] [] g d (dI (optI (meFind p n q))) [] := by
  unfold meFind
  refine acalls_of_awp (fn := Tryz.f83) (N := 44) Tryz.call83 Tryz.func83 rfl rfl (by simp) ?_
  simp only [go_sem]
  refine awp_seq_k (fun K1 hK1 => ?_)
  refine awp_plain 2 (by kernel_rfl) rfl (fun g0 hg0 => ?_)
  simp only [go_sem, List.nil_append]
  refine hK1 _ ?_
  refine awp_seq_k (fun K2 hK2 => ?_)
  refine awp_seq_k (fun K3 hK3 => ?_)
  refine awp_plain 1 (by kernel_rfl) rfl (fun g1 hg1 => ?_)
  simp only [go_sem, List.nil_append]
  refine hK3 _ ?_
  refine awp_block ?_
  refine awp_loop (fun m s => ∃ k, k ≤ p.decls.length ∧ m = p.decls.length - k ∧ List.findIdx? (fun d => isMe d n q) p.decls = (List.findIdx? (fun d => isMe d n q) (p.decls.drop k)).map (· + k) ∧
        Le { env := [(1, encS n), (2, encS q), (3, .ptr ⟨g0, 3, 0⟩ 0), (7, dN k)], σ := [(⟨g0, 3, 0⟩, .box 30 (prC p))] } s) p.decls.length ?_ ?_
  · refine ⟨0, Nat.zero_le _, rfl, by simp, le_of ?_⟩
    simp only [go_sem, prC, exC, List.cons_append, List.nil_append, prC, exC, List.cons_append, List.nil_append]
    trivial
  · rintro mm s ⟨k, hk, rfl, hf, hle⟩
    refine awp_keep hle ?_
    clear hle
    by_cases h : k < p.decls.length
    · have hf0 := hf
      rw [findD _ _ _ h] at hf
      refine awp_seq_k (fun K4 hK4 => ?_)
      refine awp_seq_k (fun K5 hK5 => ?_)
      refine awp_plain 5 (by kernel_rfl) rfl (fun g2 hg2 => ?_)
      simp only [go_sem, prC, exC, List.cons_append, List.nil_append, prC, exC, List.cons_append, List.nil_append, h]
      refine hK5 _ ?_
      refine awp_t rfl ?_
      refine awp_skip ?_
      refine hK4 _ ?_
      refine awp_seq_k (fun K6 hK6 => ?_)
      refine awp_block ?_
      refine awp_seq_k (fun K7 hK7 => ?_)
      cases hd : isMe p.decls[k] n q with
      | true =>
        rw [hd, if_pos rfl] at hf
        have hd2 : p.decls[k].kind = 3 ∧ p.decls[k].name = n ∧ p.decls[k].sig.name = q := of_decide_eq_true hd
        obtain ⟨h3, hn, hm⟩ := hd2
        refine awp_plain 28 (by kernel_rfl) rfl (fun g4 hg4 => ?_)
        simp only [go_sem, h3, hn, hm, decide_true, exC, List.cons_append, List.nil_append, exC, List.cons_append, List.nil_append, deC, siC, getM h]
        refine hK7 _ ?_
        refine awp_t rfl ?_
        refine awp_seq_k (fun K8 hK8 => ?_)
        refine awp_plain 2 (by kernel_rfl) rfl (fun g5 hg5 => ?_)
        simp only [go_sem, List.nil_append, List.nil_append]
        refine hK8 _ ?_
        refine awp_ret ?_
        rw [hf]
        refine ends_ev rfl ?_
        simp only [go_sem]
        exact Co.of_eq (by simp [optI])
      | false =>
        rw [hd, if_neg (by simp)] at hf
        have hd2 : ¬ (p.decls[k].kind = 3 ∧ p.decls[k].name = n ∧ p.decls[k].sig.name = q) := of_decide_eq_false hd
        by_cases h3 : p.decls[k].kind = 3
        · by_cases hn : p.decls[k].name = n
          · have hm : ¬ p.decls[k].sig.name = q := fun e => hd2 ⟨h3, hn, e⟩
            refine awp_plain 28 (by kernel_rfl) rfl (fun g4 hg4 => ?_)
            simp only [go_sem, h3, hn, hm, decide_true, decide_false, exC, List.cons_append, List.nil_append, exC, List.cons_append, List.nil_append, deC, siC, getM h]
            refine hK7 _ ?_
            refine awp_f rfl ?_
            refine awp_skip ?_
            refine hK6 _ ?_
            refine awp_plain 3 (by kernel_rfl) rfl (fun g3 hg3 => ?_)
            simp only [go_sem, prC, exC, List.cons_append, List.nil_append, prC, exC, List.cons_append, List.nil_append]
            try simp (disch := omega) only [wrapN]
            refine ⟨_, ?_, k + 1, h, rfl, ?_, le_of ?_⟩
            · omega
            · rw [hf]; simp [Option.map_map, Function.comp_def, Nat.add_comm, Nat.add_left_comm]
            simp only [go_sem]
            omega
          · refine awp_plain 28 (by kernel_rfl) rfl (fun g4 hg4 => ?_)
            simp only [go_sem, h3, hn, decide_true, decide_false, exC, List.cons_append, List.nil_append, exC, List.cons_append, List.nil_append, deC, siC, getM h]
            refine hK7 _ ?_
            refine awp_f rfl ?_
            refine awp_skip ?_
            refine hK6 _ ?_
            refine awp_plain 3 (by kernel_rfl) rfl (fun g3 hg3 => ?_)
            simp only [go_sem, prC, exC, List.cons_append, List.nil_append, prC, exC, List.cons_append, List.nil_append]
            try simp (disch := omega) only [wrapN]
            refine ⟨_, ?_, k + 1, h, rfl, ?_, le_of ?_⟩
            · omega
            · rw [hf]; simp [Option.map_map, Function.comp_def, Nat.add_comm, Nat.add_left_comm]
            simp only [go_sem]
            omega
        · refine awp_plain 28 (by kernel_rfl) rfl (fun g4 hg4 => ?_)
          simp only [go_sem, h3, decide_false, exC, List.cons_append, List.nil_append, exC, List.cons_append, List.nil_append, deC, siC, getM h]
          refine hK7 _ ?_
          refine awp_f rfl ?_
          refine awp_skip ?_
          refine hK6 _ ?_
          refine awp_plain 3 (by kernel_rfl) rfl (fun g3 hg3 => ?_)
          simp only [go_sem, prC, exC, List.cons_append, List.nil_append, prC, exC, List.cons_append, List.nil_append]
          try simp (disch := omega) only [wrapN]
          refine ⟨_, ?_, k + 1, h, rfl, ?_, le_of ?_⟩
          · omega
          · rw [hf]; simp [Option.map_map, Function.comp_def, Nat.add_comm, Nat.add_left_comm]
          simp only [go_sem]
          omega
    · rw [dropN p.decls k (by omega)] at hf
      refine awp_seq_k (fun K9 hK9 => ?_)
      refine awp_seq_k (fun K10 hK10 => ?_)
      refine awp_plain 5 (by kernel_rfl) rfl (fun g2 hg2 => ?_)
      simp only [go_sem, h, prC, exC, List.cons_append, List.nil_append, prC, exC, List.cons_append, List.nil_append]
      refine hK10 _ ?_
      refine awp_f rfl ?_
      refine awp_exit ?_
      refine hK2 _ ?_
      refine awp_seq_k (fun K11 hK11 => ?_)
      refine awp_plain 1 (by kernel_rfl) rfl (fun g6 hg6 => ?_)
      simp only [go_sem, List.nil_append, List.nil_append]
      refine hK11 _ ?_
      refine awp_ret ?_
      rw [hf]
      refine ends_ev rfl ?_
      simp only [go_sem]
      exact Co.of_eq (by simp [optI])
end Go.Proofs.T

