/- A part of the proof, under no conditions of its own: B9. -/
import Derived.Test.YtjhencaobpihnaaDoorB8
namespace Go.Proofs.T
open Go Go.Ab Go.RowKit

/-! ## Specifications -/

def specSi (d : Dec) (us : List Ty) (s : Sig) : Sig := mapSi (substTy (d.formals.map (·.name)) us) (canonSi s)
def seen (l : List Sig) (k : Nat) (n : Str) : Bool := (l.take k).any fun t => decide (t.name = n)
def specsTo (d : Dec) (us : List Ty) : Nat → List Sig
  | 0 => []
  | k + 1 => match d.sigs[k]? with
    | some s => if seen d.sigs k s.name = true then specsTo d us k else specsTo d us k ++ [specSi d us s]
    | none => specsTo d us k
def specsOf (d : Dec) (us : List Ty) : List Sig := specsTo d us d.sigs.length
theorem specsTo_len (d : Dec) (us : List Ty) : ∀ k, (specsTo d us k).length ≤ k
  | 0 => Nat.le_refl _
  | k + 1 => by
    have := specsTo_len d us k
    simp only [specsTo]
    split
    · split
      · omega
      · simp; omega
    · omega
theorem specsTo_succ (d : Dec) (us : List Ty) (k : Nat) (h : k < d.sigs.length) : specsTo d us (k + 1) = if seen d.sigs k d.sigs[k].name = true then specsTo d us k else specsTo d us k ++ [specSi d us d.sigs[k]] := by
  simp only [specsTo, List.getElem?_eq_getElem h]

def seenE (l : List Str) : List (Value × D) := l.map fun n => (.string n, dB true)
def seenL (l : List Sig) : Nat → List Str
  | 0 => []
  | k + 1 => match l[k]? with
    | some s => if seen l k s.name = true then seenL l k else seenL l k ++ [s.name]
    | none => seenL l k
theorem seenL_mem (l : List Sig) (n : Str) : ∀ k, n ∈ seenL l k ↔ seen l k n = true
  | 0 => by simp [seenL, seen]
  | k + 1 => by
    have ih := seenL_mem l n k
    by_cases h : k < l.length
    · have hs : seen l (k + 1) n = (seen l k n || decide (l[k].name = n)) := by
        unfold seen
        rw [List.take_add_one, List.getElem?_eq_getElem h, List.any_append]
        simp only [Option.toList_some, List.any_cons, List.any_nil, Bool.or_false]
      simp only [seenL, List.getElem?_eq_getElem h, hs]
      split
      · rename_i h1
        rw [ih]
        constructor
        · intro h2; simp [h2]
        · intro h2
          simp only [Bool.or_eq_true, decide_eq_true_eq] at h2
          rcases h2 with h2 | h2
          · exact h2
          · rw [← h2]; exact h1
      · simp only [List.mem_append, List.mem_singleton, ih, Bool.or_eq_true, decide_eq_true_eq]
        constructor
        · rintro (h2 | h2)
          · exact .inl h2
          · exact .inr h2.symm
        · rintro (h2 | h2)
          · exact .inl h2
          · exact .inr h2.symm
    · have h1 : l.take (k + 1) = l.take k := by rw [List.take_of_length_le (by omega), List.take_of_length_le (by omega)]
      simp only [seenL, List.getElem?_eq_none (show l.length ≤ k by omega)]
      rw [ih]
      unfold seen
      rw [h1]
open Classical in
theorem mget_seen : ∀ (l : List Str) (n : Str), mget (seenE l) (.string n) = if n ∈ l then some (dB true) else none
  | [], n => by simp [seenE, mget]
  | x :: r, n => by
    have ih := mget_seen r n
    simp only [seenE, List.map_cons, mget] at ih ⊢
    by_cases h : x = n
    · simp [h]
    · rw [if_neg (by simpa using h), ih]
      simp [Ne.symm h]
open Classical in
theorem mput_seen : ∀ (l : List Str) (n : Str), mput (seenE l) (.string n) (dB true) = if n ∈ l then seenE l else seenE (l ++ [n])
  | [], n => by simp [seenE, mput]
  | x :: r, n => by
    have ih := mput_seen r n
    simp only [seenE, List.map_cons, mput, List.cons_append] at ih ⊢
    by_cases h : x = n
    · simp [h]
    · rw [if_neg (by simpa using h), ih]
      by_cases hm : n ∈ r <;> simp [hm, Ne.symm h]
theorem look_seen (l : List Sig) (k : Nat) (n : Str) : mget (seenE (seenL l k)) (.string n) = if seen l k n = true then some (dB true) else none := by
  rw [mget_seen]
  by_cases h : seen l k n = true
  · rw [if_pos h, if_pos ((seenL_mem l n k).2 h)]
  · rw [if_neg h, if_neg (fun e => h ((seenL_mem l n k).1 e))]
theorem put_seen (l : List Sig) (k : Nat) (h : k < l.length) : mput (seenE (seenL l k)) (.string l[k].name) (dB true) = seenE (seenL l (k + 1)) := by
  rw [mput_seen]
  simp only [seenL, List.getElem?_eq_getElem h]
  by_cases hs : seen l k l[k].name = true
  · rw [if_pos hs, if_pos ((seenL_mem l _ k).2 hs)]
  · rw [if_neg hs, if_neg (fun e => hs ((seenL_mem l _ k).1 e))]

def ksS : KS := .one .str
theorem okRowsSi : ∀ l : List Sig, okRows 7 (l.map encSi) := fun l => okRows_map 7 encSi l fun _ => ⟨rfl, rfl⟩

theorem tbSpecs_calls (p : Prg) (h : smPr p) (x : Ty) (hx : smTy x) (g d : Nat) :
    ACalls E 16 [encTb p, encTy x] [] g d (.tup [slSi (if instOf p x 2 = true then specsOf ((tyDe p x.name).getD zeroDe) x.args else []), dB (instOf p x 2)]) [] := by
  have hi := tbInst_calls p x 2 (by decide)
  have hs := smDe_get h x.name
  have hxa := ((smTy_iff x).1 hx)
  generalize (tyDe p x.name).getD zeroDe = e at hi hs
  obtain ⟨-, ⟨f1, f2⟩, -, ⟨f3, f4⟩, -⟩ := hs
  refine acalls_of_awp (fn := Tryd.f16) (N := 49) Tryd.call16 Tryd.func16 rfl rfl (by simp) ?_
  simp only [go_sem]
  refine awp_seq_k (fun K1 hK1 => ?_)
  refine awp_plain 3 (by kernel_rfl) rfl (fun g0 hg0 => ?_)
  simp only [go_sem, List.nil_append]
  refine hK1 _ ?_
  refine awp_seq_k (fun K2 hK2 => ?_)
  refine awp_ops (by kernel_rfl) rfl (fun g1 hg1 ops1 KR1 hops1 hKR1 => ?_)
  refine aops_eval 2 hops1 ?_
  simp only [go_sem, List.nil_append]
  cases hins : instOf p x 2 with
  | false =>
    refine aops_pure hops1 rfl rfl rfl (hi _ _) (CoL.refl _) ?_
    refine aops_last 6 hops1 ?_
    simp only [go_sem, hins, deC, siC, exC, List.cons_append, List.nil_append]
    refine hKR1 _ ?_
    refine hK2 _ ?_
    refine awp_seq_k (fun K3 hK3 => ?_)
    refine awp_seq_k (fun K4 hK4 => ?_)
    refine awp_plain 2 (by kernel_rfl) rfl (fun g2 hg2 => ?_)
    simp only [go_sem, Bool.not_false, List.nil_append]
    refine hK4 _ ?_
    refine awp_t rfl ?_
    refine awp_seq_k (fun K5 hK5 => ?_)
    refine awp_plain 2 (by kernel_rfl) rfl (fun g3 hg3 => ?_)
    simp only [go_sem, List.nil_append]
    refine hK5 _ ?_
    refine awp_ret ?_
    rw [hins, if_neg (by decide)]
    refine ends_ev rfl ?_
    simp only [go_sem]
    exact Co.tup (.cons (.nil _) (.cons (.refl _) .nil))
  | true =>
    refine aops_pure hops1 rfl rfl rfl (hi _ _) (CoL.refl _) ?_
    refine aops_last 6 hops1 ?_
    simp only [go_sem, hins, deC, siC, exC, List.cons_append, List.nil_append]
    refine hKR1 _ ?_
    refine hK2 _ ?_
    refine awp_seq_k (fun K6 hK6 => ?_)
    refine awp_seq_k (fun K7 hK7 => ?_)
    refine awp_plain 2 (by kernel_rfl) rfl (fun g2 hg2 => ?_)
    simp only [go_sem, Bool.not_true, List.nil_append]
    refine hK7 _ ?_
    refine awp_f rfl ?_
    refine awp_skip ?_
    refine hK6 _ ?_
    refine awp_seq_k (fun K8 hK8 => ?_)
    refine awp_plain 1 (by kernel_rfl) rfl (fun g4 hg4 => ?_)
    simp only [go_sem, List.nil_append]
    refine hK8 _ ?_
    refine awp_seq_k (fun K9 hK9 => ?_)
    refine awp_plain 2 (by kernel_rfl) rfl (fun g5 hg5 => ?_)
    simp only [go_sem, List.cons_append, List.nil_append]
    refine hK9 _ ?_
    refine awp_seq_k (fun K10 hK10 => ?_)
    refine awp_seq_k (fun K11 hK11 => ?_)
    refine awp_plain 4 (by kernel_rfl) rfl (fun g6 hg6 => ?_)
    simp only [go_sem, List.nil_append]
    refine hK11 _ ?_
    refine awp_block ?_
    refine awp_nil 8 42 7 rfl fun gn hgn => ?_
    have hn0 : gn ≠ g0 := fresh_g hgn 3 0 (by simp [go_sem])
    have hn1 : gn ≠ g1 := fresh_g hgn 6 0 (by simp [go_sem])
    have hn5 : gn ≠ g5 := fresh_g hgn 20 0 (by simp [go_sem])
    have h51 : g5 ≠ g1 := fresh_g hg5 6 0 (by simp [go_sem])
    have h50 : g5 ≠ g0 := fresh_g hg5 3 0 (by simp [go_sem])
    refine awp_loop (fun m s => ∃ k a i n, k ≤ e.sigs.length ∧ m = e.sigs.length - k ∧ n = (specsTo e x.args k).length ∧ a ≠ g0 ∧ a ≠ g1 ∧ a ≠ g5 ∧
        Le { env := [(3, .ptr ⟨g0, 3, 0⟩ 0), (6, .ptr ⟨g1, 6, 0⟩ 0), (22, slSi e.sigs), (23, dN e.sigs.length), (24, dN k), (8, .own ⟨a, i, 0⟩ n), (9, .mref ⟨g5, 20, 0⟩)],
             σ := [(⟨g0, 3, 0⟩, .box 25 (tyC x)), (⟨g1, 6, 0⟩, .box 48 (deC e)), (⟨a, i, 0⟩, .arr 42 7 ((specsTo e x.args k).map encSi)), (⟨g5, 20, 0⟩, .map ksS (seenE (seenL e.sigs k)))] } s) e.sigs.length ?_ ?_
    · refine ⟨0, gn, 0, 0, Nat.zero_le _, rfl, rfl, hn0, hn1, hn5, le_of ?_⟩
      simp only [go_sem, slSi, specsTo, seenL, seenE, ksS, List.map_nil, deC, siC, exC, List.cons_append, List.nil_append, tyC, deC, siC, exC, List.cons_append, List.nil_append, tyC, hn0, hn1, hn5, h51, h50, Ne.symm hn0, Ne.symm hn1, Ne.symm hn5, Ne.symm h51, Ne.symm h50]
      trivial
    · rintro m s ⟨k, a, i, n, hk, rfl, hn, ha0, ha1, ha5, hle⟩
      refine awp_keep hle ?_
      clear hle
      by_cases hlt : k < e.sigs.length
      · have hsk := f4 _ (List.getElem_mem hlt)
        have hlk := look_seen e.sigs k e.sigs[k].name
        have hpt : mput (seenE (seenL e.sigs k)) (.string e.sigs[k].name) (.val (.bool true)) = _ := put_seen e.sigs k hlt
        have hsl := specsTo_len e x.args k
        have hss := specsTo_succ e x.args k hlt
        refine awp_seq_k (fun K12 hK12 => ?_)
        refine awp_plain 1 (by kernel_rfl) rfl (fun g7 hg7 => ?_)
        simp only [go_sem, deC, siC, exC, List.cons_append, List.nil_append, tyC, deC, siC, exC, List.cons_append, List.nil_append, tyC, deC, siC, exC, List.cons_append, List.nil_append, tyC, slSi, hlt, ksS]
        refine hK12 _ ?_
        refine awp_seq_k (fun K13 hK13 => ?_)
        refine awp_t rfl ?_
        refine awp_skip ?_
        refine hK13 _ ?_
        refine awp_seq_k (fun K14 hK14 => ?_)
        refine awp_block ?_
        refine awp_seq_k (fun K15 hK15 => ?_)
        refine awp_plain 4 (by kernel_rfl) rfl (fun g8 hg8 => ?_)
        simp only [go_sem, getM hlt, siC, List.cons_append, List.nil_append, siC, List.cons_append, List.nil_append, siC, List.cons_append, List.nil_append]
        refine hK15 _ ?_
        refine awp_seq_k (fun K16 hK16 => ?_)
        refine awp_seq_k (fun K17 hK17 => ?_)
        have hn8_a : g8 ≠ a := fresh_g hg8 i 0 (by simp [go_sem, Ne.symm ha0, Ne.symm ha1])
        have hn8_g0 : g8 ≠ g0 := fresh_g hg8 3 0 (by simp [go_sem])
        have hn8_g1 : g8 ≠ g1 := fresh_g hg8 6 0 (by simp [go_sem])
        have hn8_g5 : g8 ≠ g5 := fresh_g hg8 20 0 (by simp [go_sem, ha5, Ne.symm h51, Ne.symm h50])
        cases hse : seen e.sigs k e.sigs[k].name with
        | true =>
          rw [hse, if_pos rfl] at hlk hss
          refine awp_plain 5 (by kernel_rfl) rfl (fun g9 hg9 => ?_)
          simp only [go_sem, hlk, Bool.not_true, List.nil_append, List.nil_append, List.nil_append, ha5, Ne.symm h51, Ne.symm h50, KS.fits, KC.fits, Ne.symm hn8_a, Ne.symm hn8_g0, Ne.symm hn8_g1, hn8_g5, Ne.symm hn8_g5]
          refine hK17 _ ?_
          refine awp_f rfl ?_
          refine awp_skip ?_
          refine hK16 _ ?_
          refine awp_plain 4 (by kernel_rfl) rfl (fun g11 hg11 => ?_)
          simp only [go_sem, hpt, List.nil_append, List.nil_append, List.nil_append, ha5, Ne.symm h51, Ne.symm h50, KS.fits, KC.fits, Ne.symm hn8_a, Ne.symm hn8_g0, Ne.symm hn8_g1, hn8_g5, Ne.symm hn8_g5]
          refine hK14 _ ?_
          refine awp_plain 2 (by kernel_rfl) rfl (fun g12 hg12 => ?_)
          simp only [go_sem, deC, siC, exC, List.cons_append, List.nil_append, tyC, deC, siC, exC, List.cons_append, List.nil_append, tyC, deC, siC, exC, List.cons_append, List.nil_append, tyC, slSi, ksS]
          try simp (disch := omega) only [wrapN]
          refine ⟨_, ?_, k + 1, a, i, n, hlt, rfl, by rw [hss]; exact hn, ha0, ha1, ha5, le_of ?_⟩
          · omega
          simp only [go_sem, hss, ha0, ha1, ha5, Ne.symm ha0, Ne.symm ha1, Ne.symm ha5, h51, h50, Ne.symm h51, Ne.symm h50, hn8_a, hn8_g0, hn8_g1, hn8_g5]
          trivial
        | false =>
          rw [hse, if_neg (by simp)] at hlk hss
          refine awp_plain 5 (by kernel_rfl) rfl (fun g9 hg9 => ?_)
          simp only [go_sem, hlk, Bool.not_false, List.nil_append, List.nil_append, List.nil_append, ha5, Ne.symm h51, Ne.symm h50, KS.fits, KC.fits, Ne.symm hn8_a, Ne.symm hn8_g0, Ne.symm hn8_g1, hn8_g5, Ne.symm hn8_g5]
          refine hK17 _ ?_
          refine awp_t rfl ?_
          refine awp_any 10 (by kernel_rfl) (by kernel_rfl) rfl (fun g10 hg10 ops10 KR10 hops10 hKR10 => ?_)
          refine qrun_eval 2 hops10 ?_
          simp only [go_sem, List.nil_append, List.nil_append, List.nil_append, Ne.symm hn8_a, Ne.symm hn8_g0, Ne.symm hn8_g1, Ne.symm hn8_g5]
          refine qrun_pure hops10 rfl rfl rfl (canonF_calls _ (f4 _ (List.getElem_mem hlt)) _ _) (CoL.refl _) rfl ?_
          refine qrun_eval 2 hops10 ?_
          simp only [go_sem, List.nil_append, List.nil_append, List.nil_append, ha1, h51, hn8_g1]
          refine qrun_pure hops10 rfl rfl rfl (names_calls e.formals (by omega) _ _) (CoL.refl _) rfl ?_
          refine qrun_eval 2 hops10 ?_
          simp only [go_sem, List.nil_append, List.nil_append, List.nil_append, ha0, h50, hn8_g0]
          refine qrun_pure hops10 rfl rfl rfl (substSigF_calls (e.formals.map (·.name)) x.args (by simp; omega) hxa.2.2 _ (smCanon _ (f4 _ (List.getElem_mem hlt))) _ _) (CoL.refl _) rfl ?_
          refine qrun_last 1 hops10 ?_
          simp only [go_sem, siC, List.nil_append, siC, List.nil_append, siC, List.nil_append]
          refine aops_eval 0 hops10 ?_
          simp only [go_sem]
          refine aops_app hops10 rfl rfl rfl rfl rfl es36 sz42 by42 ze42 rfl (by decide) ?_
          simp only [go_sem, siC, siC, siC, Ne.symm ha0, Ne.symm ha1, Ne.symm ha5, hn8_a]
          first | refine ⟨⟨by omega, by omega⟩, ?_⟩ | skip
          refine aops_last 1 hops10 ?_
          simp only [go_sem, List.nil_append, List.nil_append, List.nil_append]
          refine hKR10 _ ?_
          refine hK16 _ ?_
          refine awp_plain 4 (by kernel_rfl) rfl (fun g11 hg11 => ?_)
          simp only [go_sem, hpt, List.nil_append, List.nil_append, List.nil_append, Ne.symm h51, Ne.symm h50, KS.fits, KC.fits, Ne.symm hn8_g0, Ne.symm hn8_g1, hn8_g5, Ne.symm hn8_g5]
          refine hK14 _ ?_
          have hn10_g0 : g10 ≠ g0 := fresh_g hg10 3 0 (by simp [go_sem, hn8_g0])
          have hn10_g1 : g10 ≠ g1 := fresh_g hg10 6 0 (by simp [go_sem, hn8_g1])
          have hn10_g5 : g10 ≠ g5 := fresh_g hg10 20 0 (by simp [go_sem, ha5, Ne.symm h51, Ne.symm h50, hn8_g5])
          refine awp_plain 2 (by kernel_rfl) rfl (fun g12 hg12 => ?_)
          simp only [go_sem, deC, siC, exC, List.cons_append, List.nil_append, tyC, deC, siC, exC, List.cons_append, List.nil_append, tyC, deC, siC, exC, List.cons_append, List.nil_append, tyC, slSi, ksS]
          try simp (disch := omega) only [wrapN]
          refine ⟨_, ?_, k + 1, g10, 43, n + 1, hlt, rfl, by rw [hss, List.length_append, hn]; rfl, hn10_g0, hn10_g1, hn10_g5, le_of ?_⟩
          · omega
          simp only [go_sem, hss, List.map_append, List.map_cons, List.map_nil, h51, h50, Ne.symm h51, Ne.symm h50, hn8_g0, hn8_g1, hn8_g5, hn10_g0, Ne.symm hn10_g0, hn10_g1, Ne.symm hn10_g1, hn10_g5, Ne.symm hn10_g5]
          exact ⟨⟨by omega, hn.symm⟩, rfl⟩
      · refine awp_seq_k (fun K18 hK18 => ?_)
        refine awp_plain 1 (by kernel_rfl) rfl (fun g7 hg7 => ?_)
        simp only [go_sem, hlt, deC, siC, exC, List.cons_append, List.nil_append, tyC, deC, siC, exC, List.cons_append, List.nil_append, tyC, deC, siC, exC, List.cons_append, List.nil_append, tyC]
        refine hK18 _ ?_
        refine awp_seq_k (fun K19 hK19 => ?_)
        refine awp_f rfl ?_
        refine awp_exit ?_
        refine hK10 _ ?_
        refine awp_seq_k (fun K20 hK20 => ?_)
        have : k = e.sigs.length := by omega
        subst this
        refine awp_plain 3 (by kernel_rfl) rfl (fun g13 hg13 => ?_)
        simp only [go_sem, List.nil_append, List.nil_append, List.nil_append]
        refine hK20 _ ?_
        refine awp_ret ?_
        refine ret_frz ⟨a, i, 0⟩ ?_
        simp only [go_sem, Ne.symm ha0, Ne.symm ha1]
        rw [hins, if_pos rfl]
        refine ends_ev rfl ?_
        simp only [go_sem]
        exact Co.of_eq (by simp [specsOf])
end Go.Proofs.T

