/- A part of the proof, under no conditions of its own: ZAN. -/
import Derived.Test.YtkddeobmfhchfaaDoorZAM
namespace Go.Proofs.T
open Go Go.Ab Go.RowKit

/-! ## Specifications -/

def specSi (d : Dec) (us : List Ty) (s : Sig) : Sig := mapSi (substTy (d.formals.map (·.name)) us) (canonSi s)
def seen (l : List Sig) (k : Nat) (n : Str) : Bool := (l.take k).any fun t => decide (t.name = n)
def specsTo (d : Dec) (us : List Ty) : Nat → List Sig
  | 0 => []
  | k + 1 => match d.sigs[k]? with
    | some s => if seen d.sigs k s.name = true then specsTo d us k else specsTo d us k ++ [specSi d us s]
    | none => specsTo d us k
def specsOf (d : Dec) (us : List Ty) : List Sig := specsTo d us d.sigs.length
theorem specsTo_len (d : Dec) (us : List Ty) : ∀ k, (specsTo d us k).length ≤ k
  | 0 => Nat.le_refl _
  | k + 1 => by
    have := specsTo_len d us k
    simp only [specsTo]
    split
    · split
      · omega
      · simp; omega
    · omega
theorem specsTo_succ (d : Dec) (us : List Ty) (k : Nat) (h : k < d.sigs.length) : specsTo d us (k + 1) = if seen d.sigs k d.sigs[k].name = true then specsTo d us k else specsTo d us k ++ [specSi d us d.sigs[k]] := by
  simp only [specsTo, List.getElem?_eq_getElem h]

def seenE (l : List Str) : List (Value × D) := l.map fun n => (.string n, dB true)
def seenL (l : List Sig) : Nat → List Str
  | 0 => []
  | k + 1 => match l[k]? with
    | some s => if seen l k s.name = true then seenL l k else seenL l k ++ [s.name]
    | none => seenL l k
theorem seenL_mem (l : List Sig) (n : Str) : ∀ k, n ∈ seenL l k ↔ seen l k n = true
  | 0 => by simp [seenL, seen]
  | k + 1 => by
    have ih := seenL_mem l n k
    by_cases h : k < l.length
    · have hs : seen l (k + 1) n = (seen l k n || decide (l[k].name = n)) := by
        unfold seen
        rw [List.take_add_one, List.getElem?_eq_getElem h, List.any_append]
        simp only [Option.toList_some, List.any_cons, List.any_nil, Bool.or_false]
      simp only [seenL, List.getElem?_eq_getElem h, hs]
      split
      · rename_i h1
        rw [ih]
        constructor
        · intro h2; simp [h2]
        · intro h2
          simp only [Bool.or_eq_true, decide_eq_true_eq] at h2
          rcases h2 with h2 | h2
          · exact h2
          · rw [← h2]; exact h1
      · simp only [List.mem_append, List.mem_singleton, ih, Bool.or_eq_true, decide_eq_true_eq]
        constructor
        · rintro (h2 | h2)
          · exact .inl h2
          · exact .inr h2.symm
        · rintro (h2 | h2)
          · exact .inl h2
          · exact .inr h2.symm
    · have h1 : l.take (k + 1) = l.take k := by rw [List.take_of_length_le (by omega), List.take_of_length_le (by omega)]
      simp only [seenL, List.getElem?_eq_none (show l.length ≤ k by omega)]
      rw [ih]
      unfold seen
      rw [h1]
open Classical in
theorem mget_seen : ∀ (l : List Str) (n : Str), mget (seenE l) (.string n) = if n ∈ l then some (dB true) else none
  | [], n => by simp [seenE, mget]
  | x :: r, n => by
    have ih := mget_seen r n
    simp only [seenE, List.map_cons, mget] at ih ⊢
    by_cases h : x = n
    · simp [h]
    · rw [if_neg (by simpa using h), ih]
      simp [Ne.symm h]
open Classical in
theorem mput_seen : ∀ (l : List Str) (n : Str), mput (seenE l) (.string n) (dB true) = if n ∈ l then seenE l else seenE (l ++ [n])
  | [], n => by simp [seenE, mput]
  | x :: r, n => by
    have ih := mput_seen r n
    simp only [seenE, List.map_cons, mput, List.cons_append] at ih ⊢
    by_cases h : x = n
    · simp [h]
    · rw [if_neg (by simpa using h), ih]
      by_cases hm : n ∈ r <;> simp [hm, Ne.symm h]
theorem look_seen (l : List Sig) (k : Nat) (n : Str) : mget (seenE (seenL l k)) (.string n) = if seen l k n = true then some (dB true) else none := by
  rw [mget_seen]
  by_cases h : seen l k n = true
  · rw [if_pos h, if_pos ((seenL_mem l n k).2 h)]
  · rw [if_neg h, if_neg (fun e => h ((seenL_mem l n k).1 e))]
theorem put_seen (l : List Sig) (k : Nat) (h : k < l.length) : mput (seenE (seenL l k)) (.string l[k].name) (dB true) = seenE (seenL l (k + 1)) := by
  rw [mput_seen]
  simp only [seenL, List.getElem?_eq_getElem h]
  by_cases hs : seen l k l[k].name = true
  · rw [if_pos hs, if_pos ((seenL_mem l _ k).2 hs)]
  · rw [if_neg hs, if_neg (fun e => hs ((seenL_mem l _ k).1 e))]

def ksS : KS := .one .str
theorem tbSpecs_calls (p : Prg) (h : smPr p) (x : Ty) (hx : smTy x) (g d : Nat) :
    ACalls E 13 [encTb p, encTy x] [] g d (.tup [slSi (if instOf p x 2 = true then specsOf ((tyDe p x.name).getD zeroDe) x.args else []), dB (instOf p x 2)]) [] := by
  have hi := tbInst_calls p x 2 (by decide)
  have hs := smDe_get h x.name
  have hxa := ((smTy_iff x).1 hx)
  generalize (tyDe p x.name).getD zeroDe = e at hi hs
  obtain ⟨-, ⟨f1, f2⟩, -, ⟨f3, f4⟩, -⟩ := hs
  refine acalls_of_awp (fn := Tryd.f13) (N := 49) Tryd.call13 Tryd.func13 rfl rfl (by simp) ?_
  simp only [go_sem]
  refine awp_seq_k (fun K1 hK1 => ?_)
  refine awp_plain 3 (by kernel_rfl) rfl (fun g0 hg0 => ?_)
  simp only [go_sem, List.nil_append]
  refine hK1 _ ?_
  refine awp_seq_k (fun K2 hK2 => ?_)
  refine awp_ops (by kernel_rfl) rfl (fun g1 hg1 ops1 KR1 hops1 hKR1 => ?_)
  refine aops_eval 2 hops1 ?_
  simp only [go_sem, List.nil_append]
  cases hins : instOf p x 2 with
  | false =>
    refine aops_pure hops1 rfl rfl rfl (hi _ _) (CoL.refl _) ?_
    refine aops_last 6 hops1 ?_
    simp only [go_sem, hins, deC, siC, exC, List.cons_append, List.nil_append]
    refine hKR1 _ ?_
    refine hK2 _ ?_
    refine awp_seq_k (fun K3 hK3 => ?_)
    refine awp_seq_k (fun K4 hK4 => ?_)
    refine awp_plain 2 (by kernel_rfl) rfl (fun g2 hg2 => ?_)
    simp only [go_sem, Bool.not_false, List.nil_append]
    refine hK4 _ ?_
    refine awp_t rfl ?_
    refine awp_seq_k (fun K5 hK5 => ?_)
    refine awp_plain 2 (by kernel_rfl) rfl (fun g3 hg3 => ?_)
    simp only [go_sem, List.nil_append]
    refine hK5 _ ?_
    refine awp_ret ?_
    rw [hins, if_neg (by decide)]
    refine ends_ev rfl ?_
    simp only [go_sem]
    exact Co.tup (.cons (.nil _) (.cons (.refl _) .nil))
  | true =>
    refine aops_pure hops1 rfl rfl rfl (hi _ _) (CoL.refl _) ?_
    refine aops_last 6 hops1 ?_
    simp only [go_sem, hins, deC, siC, exC, List.cons_append, List.nil_append]
    refine hKR1 _ ?_
    refine hK2 _ ?_
    refine awp_seq_k (fun K6 hK6 => ?_)
    refine awp_seq_k (fun K7 hK7 => ?_)
    refine awp_plain 2 (by kernel_rfl) rfl (fun g2 hg2 => ?_)
    simp only [go_sem, Bool.not_true, List.nil_append]
    refine hK7 _ ?_
    refine awp_f rfl ?_
    refine awp_skip ?_
    refine hK6 _ ?_
    refine awp_seq_k (fun K8 hK8 => ?_)
    refine awp_plain 1 (by kernel_rfl) rfl (fun g4 hg4 => ?_)
    simp only [go_sem, List.nil_append]
    refine hK8 _ ?_
    refine awp_seq_k (fun K9 hK9 => ?_)
    refine awp_plain 2 (by kernel_rfl) rfl (fun g5 hg5 => ?_)
    simp only [go_sem, List.cons_append, List.nil_append]
    refine hK9 _ ?_
    refine awp_seq_k (fun K10 hK10 => ?_)
    refine awp_seq_k (fun K11 hK11 => ?_)
    refine awp_plain 4 (by kernel_rfl) rfl (fun g6 hg6 => ?_)
    simp only [go_sem, List.nil_append]
    refine hK11 _ ?_
    refine awp_block ?_
    refine awp_nil 8 50 7 rfl fun gn hgn => ?_
    have hn0 : gn ≠ g0 := fresh_g hgn 3 0 (by simp [go_sem])
    have hn1 : gn ≠ g1 := fresh_g hgn 6 0 (by simp [go_sem])
    have hn5 : gn ≠ g5 := fresh_g hgn 20 0 (by simp [go_sem])
    have h51 : g5 ≠ g1 := fresh_g hg5 6 0 (by simp [go_sem])
    have h50 : g5 ≠ g0 := fresh_g hg5 3 0 (by simp [go_sem])
    refine awp_loop (fun m s => ∃ k a i n, k ≤ e.sigs.length ∧ m = e.sigs.length - k ∧ n = (specsTo e x.args k).length ∧ a ≠ g0 ∧ a ≠ g1 ∧ a ≠ g5 ∧
        Le { env := [(3, .ptr ⟨g0, 3, 0⟩ 0), (6, .ptr ⟨g1, 6, 0⟩ 0), (22, slSi e.sigs), (23, dN e.sigs.length), (24, dN k), (8, .own ⟨a, i, 0⟩ n), (9, .mref ⟨g5, 20, 0⟩)],
             σ := [(⟨g0, 3, 0⟩, .box 25 (tyC x)), (⟨g1, 6, 0⟩, .box 52 (deC e)), (⟨a, i, 0⟩, .arr 50 7 ((specsTo e x.args k).map encSi)), (⟨g5, 20, 0⟩, .map ksS (seenE (seenL e.sigs k)))] } s) e.sigs.length ?_ ?_
    · refine ⟨0, gn, 0, 0, Nat.zero_le _, rfl, rfl, hn0, hn1, hn5, le_of ?_⟩
      simp only [go_sem, slSi, specsTo, seenL, seenE, ksS, List.map_nil, deC, siC, exC, List.cons_append, List.nil_append, tyC, deC, siC, exC, List.cons_append, List.nil_append, tyC, hn0, hn1, hn5, h51, h50, Ne.symm hn0, Ne.symm hn1, Ne.symm hn5, Ne.symm h51, Ne.symm h50]
      trivial
    · rintro m s ⟨k, a, i, n, hk, rfl, hn, ha0, ha1, ha5, hle⟩
      refine awp_keep hle ?_
      clear hle
      by_cases hlt : k < e.sigs.length
      · have hsk := f4 _ (List.getElem_mem hlt)
        have hlk := look_seen e.sigs k e.sigs[k].name
        have hpt : mput (seenE (seenL e.sigs k)) (.string e.sigs[k].name) (.val (.bool true)) = _ := put_seen e.sigs k hlt
        have hsl := specsTo_len e x.args k
        have hss := specsTo_succ e x.args k hlt
        refine awp_seq_k (fun K12 hK12 => ?_)
        refine awp_plain 1 (by kernel_rfl) rfl (fun g7 hg7 => ?_)
        simp only [go_sem, deC, siC, exC, List.cons_append, List.nil_append, tyC, deC, siC, exC, List.cons_append, List.nil_append, tyC, deC, siC, exC, List.cons_append, List.nil_append, tyC, slSi, hlt, ksS]
        refine hK12 _ ?_
        refine awp_seq_k (fun K13 hK13 => ?_)
        refine awp_t rfl ?_
        refine awp_skip ?_
        refine hK13 _ ?_
        refine awp_seq_k (fun K14 hK14 => ?_)
        refine awp_block ?_
        refine awp_seq_k (fun K15 hK15 => ?_)
        refine awp_plain 4 (by kernel_rfl) rfl (fun g8 hg8 => ?_)
        simp only [go_sem, getM hlt, siC, List.cons_append, List.nil_append, siC, List.cons_append, List.nil_append, siC, List.cons_append, List.nil_append]
        refine hK15 _ ?_
        refine awp_seq_k (fun K16 hK16 => ?_)
        refine awp_seq_k (fun K17 hK17 => ?_)
        have hn8_a : g8 ≠ a := fresh_g hg8 i 0 (by simp [go_sem, Ne.symm ha0, Ne.symm ha1])
        have hn8_g0 : g8 ≠ g0 := fresh_g hg8 3 0 (by simp [go_sem])
        have hn8_g1 : g8 ≠ g1 := fresh_g hg8 6 0 (by simp [go_sem])
        have hn8_g5 : g8 ≠ g5 := fresh_g hg8 20 0 (by simp [go_sem, ha5, Ne.symm h51, Ne.symm h50])
        cases hse : seen e.sigs k e.sigs[k].name with
        | true =>
          rw [hse, if_pos rfl] at hlk hss
          refine awp_plain 5 (by kernel_rfl) rfl (fun g9 hg9 => ?_)
          simp only [go_sem, hlk, Bool.not_true, List.nil_append, List.nil_append, List.nil_append, ha5, Ne.symm h51, Ne.symm h50, KS.fits, KC.fits, Ne.symm hn8_a, Ne.symm hn8_g0, Ne.symm hn8_g1, hn8_g5, Ne.symm hn8_g5]
          refine hK17 _ ?_
          refine awp_f rfl ?_
          refine awp_skip ?_
          refine hK16 _ ?_
          refine awp_plain 4 (by kernel_rfl) rfl (fun g11 hg11 => ?_)
          simp only [go_sem, hpt, List.nil_append, List.nil_append, List.nil_append, ha5, Ne.symm h51, Ne.symm h50, KS.fits, KC.fits, Ne.symm hn8_a, Ne.symm hn8_g0, Ne.symm hn8_g1, hn8_g5, Ne.symm hn8_g5]
          refine hK14 _ ?_
          refine awp_plain 2 (by kernel_rfl) rfl (fun g12 hg12 => ?_)
          simp only [go_sem, deC, siC, exC, List.cons_append, List.nil_append, tyC, deC, siC, exC, List.cons_append, List.nil_append, tyC, deC, siC, exC, List.cons_append, List.nil_append, tyC, slSi, ksS]
          try simp (disch := omega) only [wrapN]
          refine ⟨_, ?_, k + 1, a, i, n, hlt, rfl, by rw [hss]; exact hn, ha0, ha1, ha5, le_of ?_⟩
          · omega
          simp only [go_sem, hss, ha0, ha1, ha5, Ne.symm ha0, Ne.symm ha1, Ne.symm ha5, h51, h50, Ne.symm h51, Ne.symm h50, hn8_a, hn8_g0, hn8_g1, hn8_g5]
          trivial
        | false =>
          rw [hse, if_neg (by simp)] at hlk hss
          refine awp_plain 5 (by kernel_rfl) rfl (fun g9 hg9 => ?_)
          simp only [go_sem, hlk, Bool.not_false, List.nil_append, List.nil_append, List.nil_append, ha5, Ne.symm h51, Ne.symm h50, KS.fits, KC.fits, Ne.symm hn8_a, Ne.symm hn8_g0, Ne.symm hn8_g1, hn8_g5, Ne.symm hn8_g5]
          refine hK17 _ ?_
          refine awp_t rfl ?_
          refine awp_any 10 (by kernel_rfl) (by kernel_rfl) rfl (fun g10 hg10 ops10 KR10 hops10 hKR10 => ?_)
          refine qrun_eval 2 hops10 ?_
          simp only [go_sem, List.nil_append, List.nil_append, List.nil_append, Ne.symm hn8_a, Ne.symm hn8_g0, Ne.symm hn8_g1, Ne.symm hn8_g5]
          refine qrun_pure hops10 rfl rfl rfl (canonF_calls _ (f4 _ (List.getElem_mem hlt)) _ _) (CoL.refl _) rfl ?_
          refine qrun_eval 2 hops10 ?_
          simp only [go_sem, List.nil_append, List.nil_append, List.nil_append, ha1, h51, hn8_g1]
          refine qrun_pure hops10 rfl rfl rfl (names_calls e.formals (by omega) _ _) (CoL.refl _) rfl ?_
          refine qrun_eval 2 hops10 ?_
          simp only [go_sem, List.nil_append, List.nil_append, List.nil_append, ha0, h50, hn8_g0]
          refine qrun_pure hops10 rfl rfl rfl (substSigF_calls (e.formals.map (·.name)) x.args (by simp; omega) hxa.2.2 _ (smCanon _ (f4 _ (List.getElem_mem hlt))) _ _) (CoL.refl _) rfl ?_
          refine qrun_last 1 hops10 ?_
          simp only [go_sem, siC, List.nil_append, siC, List.nil_append, siC, List.nil_append]
          refine aops_eval 0 hops10 ?_
          simp only [go_sem]
          refine aops_app hops10 rfl rfl rfl rfl rfl es39 sz50 by50 ze50 rfl (by decide) ?_
          simp only [go_sem, siC, siC, siC, Ne.symm ha0, Ne.symm ha1, Ne.symm ha5, hn8_a]
          first | refine ⟨⟨by omega, by omega⟩, ?_⟩ | skip
          refine aops_last 1 hops10 ?_
          simp only [go_sem, List.nil_append, List.nil_append, List.nil_append]
          refine hKR10 _ ?_
          refine hK16 _ ?_
          refine awp_plain 4 (by kernel_rfl) rfl (fun g11 hg11 => ?_)
          simp only [go_sem, hpt, List.nil_append, List.nil_append, List.nil_append, Ne.symm h51, Ne.symm h50, KS.fits, KC.fits, Ne.symm hn8_g0, Ne.symm hn8_g1, hn8_g5, Ne.symm hn8_g5]
          refine hK14 _ ?_
          have hn10_g0 : g10 ≠ g0 := fresh_g hg10 3 0 (by simp [go_sem, hn8_g0])
          have hn10_g1 : g10 ≠ g1 := fresh_g hg10 6 0 (by simp [go_sem, hn8_g1])
          have hn10_g5 : g10 ≠ g5 := fresh_g hg10 20 0 (by simp [go_sem, ha5, Ne.symm h51, Ne.symm h50, hn8_g5])
          refine awp_plain 2 (by kernel_rfl) rfl (fun g12 hg12 => ?_)
          simp only [go_sem, deC, siC, exC, List.cons_append, List.nil_append, tyC, deC, siC, exC, List.cons_append, List.nil_append, tyC, deC, siC, exC, List.cons_append, List.nil_append, tyC, slSi, ksS]
          try simp (disch := omega) only [wrapN]
          refine ⟨_, ?_, k + 1, g10, 43, n + 1, hlt, rfl, by rw [hss, List.length_append, hn]; rfl, hn10_g0, hn10_g1, hn10_g5, le_of ?_⟩
          · omega
          simp only [go_sem, hss, List.map_append, List.map_cons, List.map_nil, h51, h50, Ne.symm h51, Ne.symm h50, hn8_g0, hn8_g1, hn8_g5, hn10_g0, Ne.symm hn10_g0, hn10_g1, Ne.symm hn10_g1, hn10_g5, Ne.symm hn10_g5]
          exact ⟨⟨by omega, hn.symm⟩, rfl⟩
      · refine awp_seq_k (fun K18 hK18 => ?_)
        refine awp_plain 1 (by kernel_rfl) rfl (fun g7 hg7 => ?_)
        simp only [go_sem, hlt, deC, siC, exC, List.cons_append, List.nil_append, tyC, deC, siC, exC, List.cons_append, List.nil_append, tyC, deC, siC, exC, List.cons_append, List.nil_append, tyC]
        refine hK18 _ ?_
        refine awp_seq_k (fun K19 hK19 => ?_)
        refine awp_f rfl ?_
        refine awp_exit ?_
        refine hK10 _ ?_
        refine awp_seq_k (fun K20 hK20 => ?_)
        have : k = e.sigs.length := by omega
        subst this
        refine awp_plain 3 (by kernel_rfl) rfl (fun g13 hg13 => ?_)
        simp only [go_sem, List.nil_append, List.nil_append, List.nil_append]
        refine hK20 _ ?_
        refine awp_ret ?_
        refine ret_frz ⟨a, i, 0⟩ ?_
        simp only [go_sem, Ne.symm ha0, Ne.symm ha1]
        rw [hins, if_pos rfl]
        refine ends_ev rfl ?_
        simp only [go_sem]
        exact Co.of_eq (by simp [specsOf])
end Go.Proofs.T


namespace Go.Proofs.T
open Go Go.Ab Go.RowKit

end Go.Proofs.T


namespace Go.Proofs.T
open Go Go.Ab Go.RowKit

/-! ## Methods -/

def meDe (p : Prg) (n m : Str) : Option Dec := (meFind p n m).bind fun i => p.decls[i]?
/-- The index of the method that an instance has by a name. -/
def mthIdx (p : Prg) (x : Ty) (m : Str) : Option Nat := if instOf p x 1 = true then (meFind p x.name m).filter fun i => decide ((((p.decls[i]?).getD zeroDe).vars.length : Int) = x.args.length) else none
def mthDe (p : Prg) (x : Ty) (m : Str) : Option Dec := (mthIdx p x m).bind fun i => p.decls[i]?

end Go.Proofs.T


namespace Go.Proofs.T
open Go Go.Ab Go.RowKit

/-! ## The methods of a type -/

def mPick (p : Prg) (x : Ty) (k : Nat) (e : Dec) : Bool := decide (meFind p x.name e.sig.name = some k) && decide ((e.vars.length : Int) = x.args.length)
def mSig (x : Ty) (e : Dec) : Sig := mapSi (substTy e.vars x.args) (canonSi e.sig)
def mthTo (p : Prg) (x : Ty) : Nat → List Sig
  | 0 => []
  | k + 1 => match p.decls[k]? with
    | some e => if mPick p x k e = true then mthTo p x k ++ [mSig x e] else mthTo p x k
    | none => mthTo p x k
def mthsOf (p : Prg) (x : Ty) : List Sig := if instOf p x 1 = true then mthTo p x p.decls.length else []
end Go.Proofs.T


namespace Go.Proofs.T
open Go Go.Ab Go.RowKit

/-! ## The methods of a type: the reference -/

def mthI (p : Prg) (x : Ty) (k : Nat) : List Sig := if instOf p x 1 = true then mthTo p x k else []
def isMth (p : Prg) (x : Ty) (k : Nat) (e : Dec) : Bool := decide (mthIdx p x e.sig.name = some k)
end Go.Proofs.T


namespace Go.Proofs.T
open Go Go.Ab Go.RowKit

/-! ## A nil table -/

def zeroPr : Prg := ⟨[], zeroEx⟩
def noTb : D := .val (.pointer none)
theorem getNil (a b : Str) (g d : Nat) : ACalls E 38 [noTb, .agg [.val (.string a), .val (.string b)]] [] g d (.tup [encDe zeroDe, dB false]) [] := by
  refine acalls_of_awp (fn := Tryd.f38) (N := 31) Tryd.call38 Tryd.func38 rfl rfl (by simp) ?_
  simp only [go_sem]
  refine awp_seq_k (fun K1 hK1 => ?_)
  refine awp_plain 3 (by kernel_rfl) rfl (fun g0 hg0 => ?_)
  simp only [go_sem, noTb]
  refine hK1 _ ?_
  refine awp_seq_k (fun K2 hK2 => ?_)
  refine awp_seq_k (fun K3 hK3 => ?_)
  refine awp_plain 2 (by kernel_rfl) rfl (fun g1 hg1 => ?_)
  simp only [go_sem]
  refine hK3 _ ?_
  refine awp_t rfl ?_
  refine awp_seq_k (fun K4 hK4 => ?_)
  refine awp_plain 3 (by kernel_rfl) rfl (fun g2 hg2 => ?_)
  simp only [go_sem]
  refine hK4 _ ?_
  refine awp_ret ?_
  refine ends_ev rfl ?_
  simp only [go_sem]
  exact Co.tup (.cons coZeroDe (.cons (.refl _) .nil))
theorem kindNil (n : Str) (g d : Nat) : ACalls E 14 [noTb, encS n] [] g d (dI 0) [] := by
  refine acalls_of_awp (fn := Tryd.f14) (N := 16) Tryd.call14 Tryd.func14 rfl rfl (by simp) ?_
  simp only [go_sem]
  refine awp_seq_k (fun K1 hK1 => ?_)
  refine awp_plain 1 (by kernel_rfl) rfl (fun g0 hg0 => ?_)
  simp only [go_sem]
  refine hK1 _ ?_
  refine awp_seq_k (fun K2 hK2 => ?_)
  refine awp_ops (by kernel_rfl) rfl (fun g1 hg1 ops1 KR1 hops1 hKR1 => ?_)
  refine aops_eval 3 hops1 ?_
  simp only [go_sem]
  refine aops_pure hops1 rfl rfl rfl (getNil _ _ _ _) (CoL.refl _) ?_
  refine aops_last 6 hops1 ?_
  simp only [go_sem]
  refine hKR1 _ ?_
  refine hK2 _ ?_
  refine awp_seq_k (fun K3 hK3 => ?_)
  refine awp_plain 3 (by kernel_rfl) rfl (fun g2 hg2 => ?_)
  simp only [go_sem, List.nil_append]
  refine hK3 _ ?_
  refine awp_ret ?_
  refine ends_ev rfl ?_
  simp only [go_sem]
  exact Co.of_eq (by simp [zeroDe])
end Go.Proofs.T


namespace Go.Proofs.T
open Go Go.Ab Go.RowKit

/-! ## The fixed results -/

def sP : Str := ⟨#[80]⟩
def sQ : Str := ⟨#[81]⟩
def sT1 : Str := ⟨#[84]⟩
def sA1 : Str := ⟨#[97]⟩
def sL1 : Str := ⟨#[108]⟩
def sAny : Str := ⟨#[65, 110, 121]⟩
def decP : Dec := ⟨1, sP, [⟨sA1, .mk sAny [] 0, 0⟩], [⟨sL1, .mk sA1 [] 0, 0⟩], [], ByteArray.empty, [], zeroSi, zeroEx, 0⟩
def prgP : Prg := ⟨[decP], zeroEx⟩
theorem sm1 (n : Str) (h : n.size ≤ 100) : smTy (.mk n [] 0) := (smTy_iff _).2 ⟨by show n.size ≤ _; omega, by simp [Ty.args], by simp [Ty.args]⟩
theorem sm_prgP : smPr prgP := by
  have hz := smDe_zero
  have he : smEx zeroEx := hz.2.2.2.2.2.2.2
  have hs : smSi zeroSi := hz.2.2.2.2.2.2.1
  refine ⟨⟨by simp [prgP], ?_⟩, he⟩
  intro e h
  simp only [prgP, List.mem_singleton] at h
  subst h
  refine ⟨by decide, ⟨by simp [decP], ?_⟩, ⟨by simp [decP], ?_⟩, ⟨by simp [decP], by simp [decP]⟩, by decide, ⟨by simp [decP], by simp [decP]⟩, hs, he⟩
  · intro f hf
    simp only [decP, List.mem_singleton] at hf
    subst hf
    exact ⟨by decide, sm1 _ (by decide)⟩
  · intro f hf
    simp only [decP, List.mem_singleton] at hf
    subst hf
    exact ⟨by decide, sm1 _ (by decide)⟩
theorem tyP : tyDe prgP sP = some decP := by simp [tyDe, tyFind, prgP, isDe, decP]
theorem tyQ : tyDe prgP sQ = none := by
  have : ¬ sP = sQ := by decide
  simp [tyDe, tyFind, prgP, isDe, decP, this]
def tyPT : Ty := .mk sP [.mk sT1 [] 0] 0
def fldT : Param := ⟨sL1, .mk sT1 [] 0, 0⟩
theorem fldP : fldsOf ((tyDe prgP tyPT.name).getD zeroDe) tyPT.args = [fldT] := by
  have h1 : tyPT.name = sP := rfl
  have h2 : tyPT.args = [.mk sT1 [] 0] := rfl
  rw [h1, h2, tyP]
  have h : substTy [sA1] [.mk sT1 [] 0] (.mk sA1 [] 0) = .mk sT1 [] 0 := by
    simp [substTy, look, isS, Ty.args, Ty.name, List.findIdx?_cons]
  simp [fldsOf, decP, mapPa, h, fldT]
theorem instP : instOf prgP tyPT 1 = true := by
  have h1 : tyPT.name = sP := rfl
  have h2 : tyPT.args = [.mk sT1 [] 0] := rfl
  simp [instOf, kindOf, fmsOf, h1, h2, tyP, decP]
theorem instP0 (k : Int) : instOf prgP (.mk sP [] 0) k = false := by
  simp [instOf, fmsOf, Ty.name, Ty.args, tyP, decP]
theorem at_zero'' (a : D) (rows : List D) : at? (a :: rows) 0 = some a := rfl

set_option maxRecDepth 100000 in
theorem awake_calls (g d : Nat) : ACalls E 8 [] [] g d (dB true) [] := by
  have sm := sm_prgP
  have smPT : smTy tyPT := (smTy_iff _).2 ⟨by decide, by simp [tyPT, Ty.args], by simpa [tyPT, Ty.args] using sm1 sT1 (by decide)⟩
  have smP0 : smTy (.mk sP [] 0) := sm1 _ (by decide)
  have c1 : ∀ g d, ACalls E 12 [encTb prgP, encTy tyPT] [] g d (.tup [slPa [fldT], dB true]) [] := fun g d => by
    have := tbFields_calls prgP sm tyPT smPT g d
    rwa [instP, if_pos rfl, fldP] at this
  have c2 : ∀ g d, ACalls E 12 [encTb prgP, encTy (.mk sP [] 0)] [] g d (.tup [slPa [], dB false]) [] := fun g d => by
    have := tbFields_calls prgP sm (.mk sP [] 0) smP0 g d
    rwa [instP0, if_neg (by simp)] at this
  have c3 : ∀ g d, ACalls E 13 [encTb prgP, encTy (.mk sP [] 0)] [] g d (.tup [slSi [], dB false]) [] := fun g d => by
    have := tbSpecs_calls prgP sm (.mk sP [] 0) smP0 g d
    rwa [instP0, if_neg (by simp)] at this
  have k1 : kindOf prgP sP = 1 := by simp [kindOf, tyP, decP]
  have k2 : kindOf prgP sQ = 0 := by simp [kindOf, tyQ, zeroDe]
  have k3 : fmsOf prgP sP = [⟨sA1, .mk sAny [] 0, 0⟩] := by simp [fmsOf, tyP, decP]
  refine acalls_of_awp (fn := Tryd.f8) (N := 93) Tryd.call8 Tryd.func8 rfl rfl (by simp) ?_
  simp only [go_sem]
  refine awp_seq_k (fun K1 hK1 => ?_)
  refine awp_plain 1 (by kernel_rfl) rfl (fun g0 hg0 => ?_)
  simp only [go_sem]
  refine hK1 _ ?_
  refine awp_seq_k (fun K2 hK2 => ?_)
  refine awp_plain 11 (by kernel_rfl) rfl (fun g1 hg1 => ?_)
  simp only [go_sem]
  refine hK2 _ ?_
  refine awp_seq_k (fun K3 hK3 => ?_)
  refine awp_ops (by kernel_rfl) rfl (fun g2 hg2 ops2 KR2 hops2 hKR2 => ?_)
  refine aops_eval 1 hops2 ?_
  simp only [go_sem]
  refine aops_pure hops2 rfl rfl rfl (tableNew_calls prgP sm _ _) (.cons (.agg (.cons (.one (.cons (.refl _) (.cons (.refl _) (.cons (.one (.cons (.refl _) (.cons (.refl _) (.cons (.nil _) (.cons (.refl _) (.cons (.refl _) .nil)))))) (.cons (.one (.cons (.refl _) (.cons (.refl _) (.cons (.nil _) (.cons (.refl _) (.cons (.refl _) .nil)))))) (.cons (.nil _) (.cons (.refl _) (.cons (.nil _) (.cons (.refl _) (.cons (.nil _) (.cons (.nil _) (.cons (.refl _) (.cons (.nil _) (.cons (.refl _) (.cons (.refl _) (.cons (.refl _) (.cons (.refl _) (.cons (.refl _) (.cons (.nil _) (.cons (.refl _) (.cons (.nil _) (.cons (.nil _) (.cons (.refl _) (.cons (.refl _) .nil)))))))))))))))))))))))) (.cons (.refl _) (.cons (.refl _) (.cons (.refl _) (.cons (.nil _) (.cons (.refl _) (.cons (.nil _) (.cons (.nil _) (.cons (.refl _) .nil)))))))))) .nil) ?_
  refine aops_last 1 hops2 ?_
  simp only [go_sem]
  refine hKR2 _ ?_
  refine hK3 _ ?_
  refine awp_seq_k (fun K4 hK4 => ?_)
  refine awp_plain 1 (by kernel_rfl) rfl (fun g3 hg3 => ?_)
  simp only [go_sem]
  refine hK4 _ ?_
  refine awp_seq_k (fun K5 hK5 => ?_)
  refine awp_seq_k (fun K6 hK6 => ?_)
  refine awp_plain 2 (by kernel_rfl) rfl (fun g4 hg4 => ?_)
  simp only [go_sem, encTb]
  refine hK6 _ ?_
  refine awp_f rfl ?_
  refine awp_skip ?_
  refine hK5 _ ?_
  refine awp_seq_k (fun K7 hK7 => ?_)
  refine awp_ops (by kernel_rfl) rfl (fun g6 hg6 ops6 KR6 hops6 hKR6 => ?_)
  refine aops_eval 4 hops6 ?_
  simp only [go_sem]
  refine aops_pure hops6 rfl rfl rfl (c1 _ _) (.cons (.refl _) (.cons (.agg (.cons (.refl _) (.cons (.one (.cons (.refl _) (.cons (.nil _) (.cons (.refl _) .nil)))) (.cons (.refl _) .nil)))) .nil)) ?_
  refine aops_last 5 hops6 ?_
  simp only [go_sem]
  refine hKR6 _ ?_
  refine hK7 _ ?_
  refine awp_seq_k (fun K8 hK8 => ?_)
  refine awp_ops (by kernel_rfl) rfl (fun g7 hg7 ops7 KR7 hops7 hKR7 => ?_)
  refine aops_eval 2 hops7 ?_
  simp only [go_sem]
  refine aops_pure hops7 rfl rfl rfl (c2 _ _) (.cons (.refl _) (.cons (.agg (.cons (.refl _) (.cons (.nil _) (.cons (.refl _) .nil)))) .nil)) ?_
  refine aops_last 5 hops7 ?_
  simp only [go_sem]
  refine hKR7 _ ?_
  refine hK8 _ ?_
  refine awp_seq_k (fun K9 hK9 => ?_)
  refine awp_ops (by kernel_rfl) rfl (fun g8 hg8 ops8 KR8 hops8 hKR8 => ?_)
  refine aops_eval 2 hops8 ?_
  simp only [go_sem]
  refine aops_pure hops8 rfl rfl rfl (c3 _ _) (.cons (.refl _) (.cons (.agg (.cons (.refl _) (.cons (.nil _) (.cons (.refl _) .nil)))) .nil)) ?_
  refine aops_last 5 hops8 ?_
  simp only [go_sem]
  refine hKR8 _ ?_
  refine hK9 _ ?_
  refine awp_seq_k (fun K10 hK10 => ?_)
  refine awp_ops (by kernel_rfl) rfl (fun g9 hg9 ops9 KR9 hops9 hKR9 => ?_)
  refine aops_eval 24 hops9 ?_
  simp only [go_sem, fldT, List.length_cons, List.length_nil, Nat.zero_add, List.map_cons, List.map_nil, at_zero'', List.getElem?_cons_zero, show ((1 : Nat) : Int) = 1 from rfl, decide_true]
  refine aops_pure hops9 rfl rfl rfl (tbKind_calls prgP sP _ _) (CoL.refl _) ?_
  refine aops_eval 4 hops9 ?_
  simp only [go_sem, k1, List.map_cons, List.map_nil, List.getElem?_cons_zero, decide_true]
  refine aops_pure hops9 rfl rfl rfl (tbKind_calls prgP sQ _ _) (CoL.refl _) ?_
  refine aops_eval 4 hops9 ?_
  simp only [go_sem, k2, List.map_cons, List.map_nil, List.getElem?_cons_zero, decide_true]
  refine aops_pure hops9 rfl rfl rfl (tbFms_calls prgP sm sP _ _) (CoL.refl _) ?_
  refine aops_eval 5 hops9 ?_
  simp only [go_sem, k3, List.length_cons, List.length_nil, Nat.zero_add, List.map_cons, List.map_nil, List.getElem?_cons_zero, show ((1 : Nat) : Int) = 1 from rfl, decide_true]
  refine aops_pure hops9 rfl rfl rfl (kindNil sP _ _) (CoL.refl _) ?_
  refine aops_eval 4 hops9 ?_
  simp only [go_sem, List.map_cons, List.map_nil, List.getElem?_cons_zero, decide_true]
  refine aops_pure hops9 rfl rfl rfl (tbProg_calls prgP sm _ _) (CoL.refl _) ?_
  refine aops_last 5 hops9 ?_
  simp only [go_sem, prgP, prC, List.length_cons, List.length_nil, Nat.zero_add, List.map_cons, List.map_nil, List.getElem?_cons_zero, show ((1 : Nat) : Int) = 1 from rfl, decide_true]
  refine hKR9 _ ?_
  refine hK10 _ ?_
  refine awp_ret ?_
  trace_state
  refine ends_ev rfl ?_
  simp only [go_sem]
  exact Co.refl _
end Go.Proofs.T


namespace Go.Proofs.T
open Go Go.Ab Go.RowKit

/-! ## What is returned is small -/

theorem smFm.ok {f : Formal} (h : smFm f) : okFm f := ⟨by have := h.1; omega, smTy.ok _ h.2⟩
theorem smPa.ok {f : Param} (h : smPa f) : okPa f := ⟨by have := h.1; omega, smTy.ok _ h.2⟩
theorem smEx.ok : ∀ e : Ex, smEx e → okEx e := by
  refine Ex.ind fun e ih h => ?_
  obtain ⟨h1, h2, ⟨h3, h4⟩, h5, h6⟩ := (smEx_iff e).1 h
  exact (okEx_iff e).2 ⟨by omega, smTy.ok _ h2, ⟨by omega, fun x hx => smTy.ok _ (h4 x hx)⟩, by omega, fun x hx => ih x hx (h6 x hx)⟩
theorem smDe.ok {d : Dec} (h : smDe d) : okDe d := by
  obtain ⟨h1, ⟨h2, h3⟩, ⟨h4, h5⟩, ⟨h6, h7⟩, h8, ⟨h9, h10⟩, h11, h12⟩ := h
  exact ⟨by omega, ⟨by omega, fun f hf => (h3 f hf).ok⟩, ⟨by omega, fun f hf => (h5 f hf).ok⟩, ⟨by omega, fun f hf => (h7 f hf).ok⟩, by omega, ⟨by omega, fun f hf => by have := h10 f hf; omega⟩, h11.ok, smEx.ok _ h12⟩
theorem smPr.ok {p : Prg} (h : smPr p) : okPr p := ⟨⟨by have := h.1.1; omega, fun f hf => (h.1.2 f hf).ok⟩, smEx.ok _ h.2⟩
/-! ## The laws -/

end Go.Proofs.T


namespace Go.Proofs.T
open Go Go.Ab Go.RowKit

/-! ## What a table hands back, as the call's own -/

theorem tbProgO (p : Prg) (h : smPr p) (g d : Nat) : ACalls E 23 [encTb p] [] g d (.agg (.own ⟨g, d, 1⟩ p.decls.length :: exC p.main)) (treeG g d p.decls) := by
  refine acalls_of_awp (fn := Tryd.f23) (N := 11) Tryd.call23 Tryd.func23 rfl rfl (by simp) ?_
  simp only [go_sem]
  refine awp_seq_k (fun K1 hK1 => ?_)
  refine awp_plain 1 (by kernel_rfl) rfl (fun g0 hg0 => ?_)
  simp only [go_sem, encTb, tbC, prC, exC, List.cons_append, List.nil_append]
  refine hK1 _ ?_
  refine awp_seq_k (fun K2 hK2 => ?_)
  refine awp_seq_k (fun K3 hK3 => ?_)
  refine awp_plain 2 (by kernel_rfl) rfl (fun g1 hg1 => ?_)
  simp only [go_sem, List.nil_append]
  refine hK3 _ ?_
  refine awp_f rfl ?_
  refine awp_skip ?_
  refine hK2 _ ?_
  refine awp_seq_k (fun K4 hK4 => ?_)
  refine awp_ops (by kernel_rfl) rfl (fun g3 hg3 ops3 KR3 hops3 hKR3 => ?_)
  refine aops_eval 4 hops3 ?_
  simp only [go_sem, List.nil_append]
  have hn3_g0 : g3 ≠ g0 := fresh_g hg3 2 0 (by simp [go_sem])
  refine aops_pure hops3 rfl rfl rfl (clonePrO p h _ _) (CoL.refl _) ?_
  refine aops_last 1 hops3 ?_
  simp only [go_sem, exC, List.cons_append, List.nil_append, get_treeG_ne (Ne.symm hn3_g0), set_treeG_ne (Ne.symm hn3_g0)]
  refine hKR3 _ ?_
  refine hK4 _ ?_
  refine awp_ret ?_
  refine ends_tree (show Tryd.f23.results = List.toArray [_] from rfl) ⟨g3, 10, 1⟩ (zG g3 10 p.decls) (fun q hq => (zG_ne _ _ _ q hq).2.2) (zG_nodup _ _ _) (zG_fst _ _ _) treeG_get ?_
  simp only [go_sem, get_treeG_ne (Ne.symm hn3_g0)]
  intro f f1 f2
  exact Co.of_eq (by simp [f1, f2])

theorem joinO (x y : List Formal) (hx : x.length ≤ 400000) (hy : y.length ≤ 400000) (hx2 : ∀ f ∈ x, smFm f) (hy2 : ∀ f ∈ y, smFm f) (g d : Nat) :
    ACalls E 45 [slFm x, slFm y] [] g d (.own ⟨g, d, 1⟩ (x ++ y).length) [(⟨g, d, 1⟩, .arr 60 5 ((x ++ y).map encFm))] := by
  generalize hz : x ++ y = z
  have hzl : z.length ≤ 1000000 := by rw [← hz, List.length_append]; omega
  have hz2 : ∀ f ∈ z, smFm f := fun f hf => by
    rw [← hz] at hf
    rcases List.mem_append.1 hf with h | h
    · exact hx2 f h
    · exact hy2 f h
  refine acalls_of_awp (fn := Tryd.f45) (N := 30) Tryd.call45 Tryd.func45 rfl rfl (by simp) ?_
  simp only [go_sem]
  refine awp_seq_k (fun K1 hK1 => ?_)
  refine awp_plain 1 (by kernel_rfl) rfl (fun g0 hg0 => ?_)
  simp only [go_sem]
  refine hK1 _ ?_
  refine awp_seq_k (fun K2 hK2 => ?_)
  refine awp_plain 1 (by kernel_rfl) rfl (fun g1 hg1 => ?_)
  simp only [go_sem]
  refine hK2 _ ?_
  refine awp_seq_k (fun K3 hK3 => ?_)
  refine awp_seq_k (fun K4 hK4 => ?_)
  refine awp_ops (by kernel_rfl) rfl (fun g2 hg2 ops2 KR2 hops2 hKR2 => ?_)
  refine aops_eval 3 hops2 ?_
  simp only [go_sem]
  have hc := concat_calls true [x, y] (by simp) (fun k hk => by
    have : flatF [x, y] k = [] ∨ flatF [x, y] k = x ∨ flatF [x, y] k = z := by
      match k, hk with
      | 0, _ => left; rfl
      | 1, _ => right; left; simp [flatF]
      | 2, _ => right; right; simp [flatF, hz]
      | k + 3, hk => simp at hk
    rcases this with h | h | h
    · rw [h]; simp
    · rw [h]; omega
    · rw [h]; exact hzl)
  have hfl : flatF [x, y] [x, y].length = z := by simp [flatF, hz]
  rw [hfl] at hc
  refine aops_pure hops2 rfl rfl rfl (hc _ _) (CoL.refl _) ?_
  refine aops_last 2 hops2 ?_
  simp only [go_sem]
  refine hKR2 _ ?_
  refine hK4 _ ?_
  refine awp_block ?_
  refine awp_nil 5 60 5 rfl fun gn hgn => ?_
  refine awp_loop (fun m s => ∃ k a i, k ≤ z.length ∧ m = z.length - k ∧
      Le { env := [(11, slFm z), (12, dN z.length), (13, dN k), (5, .own ⟨a, i, 0⟩ k)], σ := [(⟨a, i, 0⟩, .arr 60 5 ((z.take k).map encFm))] } s) z.length ?_ ?_
  · refine ⟨0, gn, 0, Nat.zero_le _, rfl, le_of ?_⟩
    simp only [go_sem]
    trivial
  · rintro m s ⟨k, a, i, hk, rfl, hle⟩
    refine awp_keep hle ?_
    clear hle
    by_cases h : k < z.length
    · refine awp_seq_k (fun K5 hK5 => ?_)
      refine awp_plain 1 (by kernel_rfl) rfl (fun g3 hg3 => ?_)
      simp only [go_sem, h]
      refine hK5 _ ?_
      refine awp_seq_k (fun K6 hK6 => ?_)
      refine awp_t rfl ?_
      refine awp_skip ?_
      refine hK6 _ ?_
      refine awp_seq_k (fun K7 hK7 => ?_)
      refine awp_block ?_
      refine awp_seq_k (fun K8 hK8 => ?_)
      refine awp_plain 4 (by kernel_rfl) rfl (fun g4 hg4 => ?_)
      simp only [go_sem, getM h]
      refine hK8 _ ?_
      have hn4_a : g4 ≠ a := fresh_g hg4 i 0 (by simp [go_sem])
      refine awp_any 10 (by kernel_rfl) (by kernel_rfl) rfl (fun g5 hg5 ops5 KR5 hops5 hKR5 => ?_)
      refine qrun_eval 5 hops5 ?_
      simp only [go_sem, Ne.symm hn4_a]
      refine qrun_pure hops5 rfl rfl rfl (clone_calls _ (hz2 _ (List.getElem_mem h)).2 _ _) (CoL.refl _) rfl ?_
      refine qrun_last 4 hops5 ?_
      simp only [go_sem, Ne.symm hn4_a]
      refine aops_eval 0 hops5 ?_
      simp only [go_sem]
      refine aops_app hops5 rfl rfl rfl rfl rfl es46 sz60 by60 ze60 rfl (by decide) ?_
      simp only [go_sem, List.length_take_of_le (Nat.le_of_lt h), hn4_a]
      first | refine ⟨⟨by omega, by omega⟩, ?_⟩ | skip
      refine aops_last 1 hops5 ?_
      simp only [go_sem]
      refine hKR5 _ ?_
      refine hK7 _ ?_
      refine awp_plain 2 (by kernel_rfl) rfl (fun g6 hg6 => ?_)
      simp only [go_sem]
      try simp (disch := omega) only [wrapN]
      refine ⟨_, ?_, k + 1, g5, 27, h, rfl, le_of ?_⟩
      · omega
      simp only [go_sem, ← takeM _ h]
      omega
    · refine awp_seq_k (fun K9 hK9 => ?_)
      refine awp_plain 1 (by kernel_rfl) rfl (fun g3 hg3 => ?_)
      simp only [go_sem, h]
      refine hK9 _ ?_
      refine awp_seq_k (fun K10 hK10 => ?_)
      refine awp_f rfl ?_
      refine awp_exit ?_
      refine hK3 _ ?_
      refine awp_seq_k (fun K11 hK11 => ?_)
      refine awp_plain 2 (by kernel_rfl) rfl (fun g7 hg7 => ?_)
      simp only [go_sem]
      refine hK11 _ ?_
      refine awp_ret ?_
      have : k = z.length := by omega
      subst this
      refine ends_own [⟨a, i, 0⟩] rfl ?_
      simp only [go_sem, newSto]
      exact Co.refl _

theorem tbFmsO (p : Prg) (h : smPr p) (n : Str) (g d : Nat) : ACalls E 18 [encTb p, encS n] [] g d (.own ⟨g, d, 1⟩ (fmsOf p n).length) [(⟨g, d, 1⟩, .arr 60 5 ((fmsOf p n).map encFm))] := by
  have hg := get_calls p n ByteArray.empty
  rw [getDe_ty] at hg
  have hs := smDe_get h n
  have hj := joinO ((tyDe p n).getD zeroDe).formals [] (by have := hs.2.1.1; omega) (by simp) hs.2.1.2 (by simp)
  rw [List.append_nil] at hj
  change ∀ g d, ACalls E _ _ _ g d (.own ⟨g, d, 1⟩ (fmsOf p n).length) [(⟨g, d, 1⟩, .arr 60 5 ((fmsOf p n).map encFm))] at hj
  refine acalls_of_awp (fn := Tryd.f18) (N := 17) Tryd.call18 Tryd.func18 rfl rfl (by simp) ?_
  simp only [go_sem]
  refine awp_seq_k (fun K1 hK1 => ?_)
  refine awp_plain 1 (by kernel_rfl) rfl (fun g0 hg0 => ?_)
  simp only [go_sem]
  refine hK1 _ ?_
  refine awp_seq_k (fun K2 hK2 => ?_)
  refine awp_ops (by kernel_rfl) rfl (fun g1 hg1 ops1 KR1 hops1 hKR1 => ?_)
  refine aops_eval 3 hops1 ?_
  simp only [go_sem]
  refine aops_pure hops1 rfl rfl rfl (hg _ _) (CoL.refl _) ?_
  refine aops_last 6 hops1 ?_
  simp only [go_sem]
  refine hKR1 _ ?_
  refine hK2 _ ?_
  refine awp_seq_k (fun K3 hK3 => ?_)
  refine awp_ops (by kernel_rfl) rfl (fun g2 hg2 ops2 KR2 hops2 hKR2 => ?_)
  refine aops_eval 2 hops2 ?_
  simp only [go_sem, List.nil_append]
  refine aops_pure hops2 rfl rfl rfl (hj _ _) (.cons (.refl _) (.cons (.nil _) .nil)) ?_
  refine aops_last 1 hops2 ?_
  simp only [go_sem, List.cons_append, List.nil_append]
  refine hKR2 _ ?_
  refine hK3 _ ?_
  refine awp_ret ?_
  refine ends_own [⟨g2, 16, 1⟩] rfl ?_
  simp only [go_sem, newSto]
  exact Co.refl _

def fldsT (p : Prg) (x : Ty) : List Param := fldsOf ((tyDe p x.name).getD zeroDe) x.args
theorem tbFieldsO (p : Prg) (h : smPr p) (x : Ty) (hx : smTy x) (hins : instOf p x 1 = true) (g d : Nat) :
    ACalls E 12 [encTb p, encTy x] [] g d (.tup [.own ⟨g, d, 1⟩ (fldsT p x).length, dB true]) [(⟨g, d, 1⟩, .arr 62 5 ((fldsT p x).map encPa))] := by
  unfold fldsT
  have hi := tbInst_calls p x 1 (by decide)
  have hs := smDe_get h x.name
  have hxa := ((smTy_iff x).1 hx)
  generalize (tyDe p x.name).getD zeroDe = e at hi hs
  obtain ⟨-, ⟨f1, f2⟩, ⟨f3, f4⟩, -⟩ := hs
  refine acalls_of_awp (fn := Tryd.f12) (N := 44) Tryd.call12 Tryd.func12 rfl rfl (by simp) ?_
  simp only [go_sem]
  refine awp_seq_k (fun K1 hK1 => ?_)
  refine awp_plain 3 (by kernel_rfl) rfl (fun g0 hg0 => ?_)
  simp only [go_sem, List.nil_append]
  refine hK1 _ ?_
  refine awp_seq_k (fun K2 hK2 => ?_)
  refine awp_ops (by kernel_rfl) rfl (fun g1 hg1 ops1 KR1 hops1 hKR1 => ?_)
  refine aops_eval 2 hops1 ?_
  simp only [go_sem, List.nil_append]
  refine aops_pure hops1 rfl rfl rfl (hi _ _) (CoL.refl _) ?_
  refine aops_last 6 hops1 ?_
  simp only [go_sem, hins, deC, siC, exC, List.cons_append, List.nil_append]
  refine hKR1 _ ?_
  refine hK2 _ ?_
  refine awp_seq_k (fun K3 hK3 => ?_)
  refine awp_seq_k (fun K4 hK4 => ?_)
  refine awp_plain 2 (by kernel_rfl) rfl (fun g2 hg2 => ?_)
  simp only [go_sem, Bool.not_true, List.nil_append]
  refine hK4 _ ?_
  refine awp_f rfl ?_
  refine awp_skip ?_
  refine hK3 _ ?_
  refine awp_seq_k (fun K5 hK5 => ?_)
  refine awp_plain 1 (by kernel_rfl) rfl (fun g4 hg4 => ?_)
  simp only [go_sem, List.nil_append]
  refine hK5 _ ?_
  refine awp_seq_k (fun K6 hK6 => ?_)
  refine awp_seq_k (fun K7 hK7 => ?_)
  refine awp_plain 4 (by kernel_rfl) rfl (fun g5 hg5 => ?_)
  simp only [go_sem, List.nil_append]
  refine hK7 _ ?_
  refine awp_block ?_
  refine awp_nil 8 62 5 rfl fun gn hgn => ?_
  have hn0 : gn ≠ g0 := fresh_g hgn 3 0 (by simp [go_sem])
  have hn1 : gn ≠ g1 := fresh_g hgn 6 0 (by simp [go_sem])
  refine awp_loop (fun m s => ∃ k a i, k ≤ e.fields.length ∧ m = e.fields.length - k ∧ a ≠ g0 ∧ a ≠ g1 ∧
      Le { env := [(3, .ptr ⟨g0, 3, 0⟩ 0), (6, .ptr ⟨g1, 6, 0⟩ 0), (20, slPa e.fields), (21, dN e.fields.length), (22, dN k), (8, .own ⟨a, i, 0⟩ k)],
           σ := [(⟨g0, 3, 0⟩, .box 25 (tyC x)), (⟨g1, 6, 0⟩, .box 52 (deC e)), (⟨a, i, 0⟩, .arr 62 5 ((e.fields.take k).map fun f => encPa (mapPa (substTy (e.formals.map (·.name)) x.args) f)))] } s) e.fields.length ?_ ?_
  · refine ⟨0, gn, 0, Nat.zero_le _, rfl, hn0, hn1, le_of ?_⟩
    simp only [go_sem, deC, siC, exC, List.cons_append, List.nil_append, tyC, hn0, hn1, Ne.symm hn0, Ne.symm hn1, List.take_zero, List.map_nil, deC, siC, exC, List.cons_append, List.nil_append, tyC]
    trivial
  · rintro m s ⟨k, a, i, hk, rfl, ha0, ha1, hle⟩
    refine awp_keep hle ?_
    clear hle
    have hfl : (fldsOf e x.args).length = e.fields.length := by simp [fldsOf]
    by_cases hlt : k < e.fields.length
    · refine awp_seq_k (fun K8 hK8 => ?_)
      refine awp_plain 1 (by kernel_rfl) rfl (fun g6 hg6 => ?_)
      simp only [go_sem, deC, siC, exC, List.cons_append, List.nil_append, tyC, deC, siC, exC, List.cons_append, List.nil_append, tyC, hlt, mapPa, encPa]
      refine hK8 _ ?_
      refine awp_seq_k (fun K9 hK9 => ?_)
      refine awp_t rfl ?_
      refine awp_skip ?_
      refine hK9 _ ?_
      refine awp_seq_k (fun K10 hK10 => ?_)
      refine awp_block ?_
      refine awp_seq_k (fun K11 hK11 => ?_)
      refine awp_plain 4 (by kernel_rfl) rfl (fun g7 hg7 => ?_)
      simp only [go_sem, getM hlt, List.cons_append, List.nil_append, List.cons_append, List.nil_append, encPa]
      refine hK11 _ ?_
      have hn7_a : g7 ≠ a := fresh_g hg7 i 0 (by simp [go_sem, Ne.symm ha0, Ne.symm ha1])
      have hn7_g0 : g7 ≠ g0 := fresh_g hg7 3 0 (by simp [go_sem])
      have hn7_g1 : g7 ≠ g1 := fresh_g hg7 6 0 (by simp [go_sem])
      refine awp_any 15 (by kernel_rfl) (by kernel_rfl) rfl (fun g8 hg8 ops8 KR8 hops8 hKR8 => ?_)
      refine qrun_eval 7 hops8 ?_
      simp only [go_sem, List.nil_append, List.nil_append, ha1, Ne.symm hn7_a, Ne.symm hn7_g0, hn7_g1, Ne.symm hn7_g1]
      refine qrun_pure hops8 rfl rfl rfl (names_calls e.formals (by omega) _ _) (CoL.refl _) rfl ?_
      refine qrun_eval 2 hops8 ?_
      simp only [go_sem, List.nil_append, List.nil_append, ha0, hn7_g0]
      refine qrun_pure hops8 rfl rfl rfl (subst_calls (e.formals.map (·.name)) x.args (by simp; omega) hxa.2.2 _ (f4 _ (List.getElem_mem hlt)).2 _ _) (CoL.refl _) rfl ?_
      refine qrun_last 4 hops8 ?_
      simp only [go_sem, List.cons_append, List.nil_append, List.cons_append, List.nil_append, Ne.symm hn7_a, Ne.symm hn7_g0, Ne.symm hn7_g1]
      refine aops_eval 0 hops8 ?_
      simp only [go_sem]
      refine aops_app hops8 rfl rfl rfl rfl rfl es36 sz62 by62 ze62 rfl (by decide) ?_
      simp only [go_sem, List.length_take_of_le (Nat.le_of_lt hlt), Ne.symm ha0, Ne.symm ha1, hn7_a]
      first | refine ⟨⟨by omega, by omega⟩, ?_⟩ | skip
      refine aops_last 1 hops8 ?_
      simp only [go_sem, List.nil_append, List.nil_append]
      refine hKR8 _ ?_
      refine hK10 _ ?_
      have hn8_g0 : g8 ≠ g0 := fresh_g hg8 3 0 (by simp [go_sem, hn7_g0])
      have hn8_g1 : g8 ≠ g1 := fresh_g hg8 6 0 (by simp [go_sem, hn7_g1])
      refine awp_plain 2 (by kernel_rfl) rfl (fun g9 hg9 => ?_)
      simp only [go_sem, deC, siC, exC, List.cons_append, List.nil_append, tyC, deC, siC, exC, List.cons_append, List.nil_append, tyC, mapPa, encPa]
      try simp (disch := omega) only [wrapN]
      refine ⟨_, ?_, k + 1, g8, 41, hlt, rfl, hn8_g0, hn8_g1, le_of ?_⟩
      · omega
      simp only [go_sem, ← takeM _ hlt, hn7_g0, hn7_g1, hn8_g0, Ne.symm hn8_g0, hn8_g1, Ne.symm hn8_g1]
      omega
    · refine awp_seq_k (fun K12 hK12 => ?_)
      refine awp_plain 1 (by kernel_rfl) rfl (fun g6 hg6 => ?_)
      simp only [go_sem, hlt, deC, siC, exC, List.cons_append, List.nil_append, tyC, deC, siC, exC, List.cons_append, List.nil_append, tyC]
      refine hK12 _ ?_
      refine awp_seq_k (fun K13 hK13 => ?_)
      refine awp_f rfl ?_
      refine awp_exit ?_
      refine hK6 _ ?_
      refine awp_seq_k (fun K14 hK14 => ?_)
      have : k = e.fields.length := by omega
      subst this
      refine awp_plain 3 (by kernel_rfl) rfl (fun g10 hg10 => ?_)
      simp only [go_sem, List.take_length, List.nil_append, List.nil_append]
      refine hK14 _ ?_
      refine awp_ret ?_
      have hrows : (fldsOf e x.args).map encPa = e.fields.map fun f => encPa (mapPa (substTy (e.formals.map (·.name)) x.args) f) := by simp [fldsOf, List.map_map, Function.comp_def]
      rw [hrows, hfl]
      refine ends_own [⟨a, i, 0⟩] rfl ?_
      simp only [go_sem, newSto, Ne.symm ha0, Ne.symm ha1]
      exact Co.refl _
end Go.Proofs.T


namespace Go.Proofs.T
open Go Go.Ab Go.RowKit

/-! ## Writing into trees -/

theorem treeG_nm {g d : Nat} {l : List Dec} : ∀ q ∈ treeG g d l, q.1.g = g ∧ q.1.i = d := fun q hq => by
  unfold treeG tree at hq
  rcases List.mem_cons.1 hq with rfl | hq
  · exact ⟨rfl, rfl⟩
  · obtain ⟨p, hp, rfl⟩ := List.mem_map.1 hq
    obtain ⟨h1, h2, _⟩ := zG_ne g d l p hp
    exact ⟨h1, h2⟩
theorem get_skip (d : Nat) {n : Nm} (hn : n.i = d) {S : Sto} : ∀ {A : Sto}, (A.all fun q => decide (q.1.i ≠ d)) = true → Ab.get (A ++ S) n = Ab.get S n
  | [], _ => rfl
  | (m, o) :: r, h => by
    rw [List.all_cons, Bool.and_eq_true, decide_eq_true_eq] at h
    have hne : m ≠ n := fun e => h.1 (by rw [show m = n from e, hn])
    show Ab.get ((m, o) :: (r ++ S)) n = _
    rw [Ab.get, if_neg hne]
    exact get_skip d hn h.2
theorem le_app {env : List (Nat × D)} {A T : Sto} {st : St} (h : Le ⟨env, A⟩ st) (hT : ∀ p ∈ T, Ab.get st.σ p.1 = some p.2) : Le ⟨env, A ++ T⟩ st :=
  ⟨h.1, fun p hp => (List.mem_append.1 hp).elim (h.2 p) (hT p)⟩
theorem get_treeG_head (g d : Nat) (l : List Dec) : Ab.get (treeG g d l) ⟨g, d, 1⟩ = some (.arr 52 23 (rowsZ (zG g d l))) := by
  unfold treeG tree Ab.get
  rw [if_pos rfl]
theorem get_treeG_at {g d i : Nat} {l : List Dec} {X : Dec} (h : l[i]? = some X) : Ab.get (treeG g d l) ⟨g, d, i + 2⟩ = some (arrFm X) := by
  unfold treeG tree Ab.get
  rw [if_neg (fun e => by have : 1 = i + 2 := congrArg Nm.j e; omega)]
  have h1 := zG_get g d l i
  rw [h] at h1
  exact get_obsZ (zG_nodup g d l) (X, ⟨g, d, i + 2⟩) (List.mem_of_getElem? h1)
theorem rowsG_len (g d : Nat) (l : List Dec) : (rowsZ (zG g d l)).length = l.length := by unfold rowsZ; rw [List.length_map, zG_len]
theorem rowsG_get {g d i : Nat} {l : List Dec} {X : Dec} (h : l[i]? = some X) : (rowsZ (zG g d l))[i]? = some (encDN X ⟨g, d, i + 2⟩) := by
  unfold rowsZ
  rw [List.getElem?_map, zG_get, h]
  rfl
theorem zG_set (g d : Nat) (l : List Dec) (i : Nat) (X : Dec) : zG g d (l.set i X) = (zG g d l).set i (X, ⟨g, d, i + 2⟩) := by
  refine List.ext_getElem? fun j => ?_
  rw [zG_get, List.getElem?_set, List.getElem?_set, zG_len, zG_get]
  by_cases h : i = j
  · subst h
    by_cases h2 : i < l.length
    · simp [h2]
    · simp [h2]
  · simp [h]
theorem rowsG_set (g d : Nat) (l : List Dec) (i : Nat) (X : Dec) : rowsZ (zG g d (l.set i X)) = (rowsZ (zG g d l)).set i (encDN X ⟨g, d, i + 2⟩) := by
  rw [zG_set]
  unfold rowsZ
  rw [List.map_set]
theorem treeG_mem {g d : Nat} {l : List Dec} : ∀ q ∈ treeG g d l, q = (⟨g, d, 1⟩, .arr 52 23 (rowsZ (zG g d l))) ∨ ∃ j X, l[j]? = some X ∧ q = (⟨g, d, j + 2⟩, arrFm X) := fun q hq => by
  unfold treeG tree at hq
  rcases List.mem_cons.1 hq with h | hq
  · exact .inl h
  · obtain ⟨p, hp, rfl⟩ := List.mem_map.1 hq
    obtain ⟨j, hj⟩ := List.getElem?_of_mem hp
    rw [zG_get] at hj
    obtain ⟨X, hX, rfl⟩ := Option.map_eq_some_iff.1 hj
    exact .inr ⟨j, X, hX, rfl⟩
theorem tree_out {g d i : Nat} {l : List Dec} {X X2 : Dec} (h : l[i]? = some X) (hf : X2.formals = X.formals) :
    ∀ q ∈ treeG g d (l.set i X2), Ab.get (Ab.set (treeG g d l) ⟨g, d, 1⟩ (.arr 52 23 ((rowsZ (zG g d l)).set i (encDN X2 ⟨g, d, i + 2⟩)))) q.1 = some q.2 := fun q hq => by
  rw [get_set _ _ _ (by rw [get_treeG_head]; simp)]
  rcases treeG_mem q hq with rfl | ⟨j, Y, hY, rfl⟩
  · rw [if_pos rfl, rowsG_set]
  · rw [if_neg (fun e => by have : 1 = j + 2 := congrArg Nm.j e; omega)]
    rw [List.getElem?_set] at hY
    split at hY
    · rename_i e
      subst e
      split at hY
      · cases hY
        rw [get_treeG_at h]
        unfold arrFm
        rw [hf]
      · cases hY
    · exact get_treeG_at hY
theorem tree_in {g d i : Nat} {l : List Dec} {X : Dec} {F : List Formal} (h : l[i]? = some X) (hf : F.length = X.formals.length) :
    ∀ q ∈ treeG g d (l.set i { X with formals := F }), Ab.get (Ab.set (treeG g d l) ⟨g, d, i + 2⟩ (.arr 60 5 (F.map encFm))) q.1 = some q.2 := fun q hq => by
  rw [get_set _ _ _ (by rw [get_treeG_at h]; simp)]
  rcases treeG_mem q hq with rfl | ⟨j, Y, hY, rfl⟩
  · rw [if_neg (fun e => by have : i + 2 = 1 := congrArg Nm.j e; omega), get_treeG_head, rowsG_set]
    have e : encDN { X with formals := F } ⟨g, d, i + 2⟩ = encDN X ⟨g, d, i + 2⟩ := by unfold encDN deN; rw [hf]
    have e2 : (rowsZ (zG g d l)).set i (encDN X ⟨g, d, i + 2⟩) = rowsZ (zG g d l) := by
      refine List.ext_getElem? fun j => ?_
      rw [List.getElem?_set]
      split
      · rename_i hij
        subst hij
        rw [rowsG_get h]
        have := (List.getElem?_eq_some_iff.1 (@rowsG_get g d _ _ _ h)).1
        simp [this]
      · rfl
    rw [e, e2]
  · rw [List.getElem?_set] at hY
    split at hY
    · rename_i e
      subst e
      split at hY
      · cases hY
        rw [if_pos rfl]
        rfl
      · cases hY
    · rename_i e
      rw [if_neg (fun e2 => e (by have : i + 2 = j + 2 := congrArg Nm.j e2; omega))]
      exact get_treeG_at hY
theorem setM {α : Type} (f : α → D) (l : List α) (k : Nat) (x : α) : (l.map f).set k (f x) = (l.set k x).map f := (List.map_set).symm
end Go.Proofs.T


namespace Go.Proofs.T
open Go Go.Ab Go.RowKit

/-! ## The law TableKeeps -/

def chg : Str := ⟨#[99, 104, 97, 110, 103, 101, 100]⟩
theorem treeG_self {g d : Nat} {l : List Dec} : ∀ q ∈ treeG g d l, Ab.get (treeG g d l) q.1 = some q.2 := tree_get (fun q hq => (zG_ne _ _ _ q hq).2.2) (zG_nodup _ _ _)

theorem tree_out2 {g d i : Nat} {l : List Dec} {X X2 : Dec} (h : l[i]? = some X) (hf : X2.formals = X.formals) :
    ∀ q ∈ treeG g d (l.set i X2), Ab.get ((⟨g, d, 1⟩, Ob.arr 52 23 ((rowsZ (zG g d l)).set i (encDN X2 ⟨g, d, i + 2⟩))) :: obsZ (zG g d l)) q.1 = some q.2 := fun q hq => by
  have := tree_out h hf q hq
  have e : Ab.set (treeG g d l) ⟨g, d, 1⟩ (.arr 52 23 ((rowsZ (zG g d l)).set i (encDN X2 ⟨g, d, i + 2⟩))) = (⟨g, d, 1⟩, Ob.arr 52 23 ((rowsZ (zG g d l)).set i (encDN X2 ⟨g, d, i + 2⟩))) :: obsZ (zG g d l) := by
    unfold treeG tree Ab.set
    rw [if_pos rfl]
  rw [e] at this
  exact this
set_option maxHeartbeats 2000000 in
set_option maxRecDepth 100000 in
theorem tableKeeps_calls (p : Prg) (x : Ty) (hp : okPr p) (hx : okTy x) (g d : Nat) : ACalls E 4 [encPr p, encTy x] [] g d (dB true) [] := by
  refine acalls_of_awp (fn := Tryd.f4) (N := 98) Tryd.call4 Tryd.func4 rfl rfl (by simp) ?_
  simp only [go_sem]
  refine awp_seq_k (fun K1 hK1 => ?_)
  refine awp_plain 3 (by kernel_rfl) rfl (fun g0 hg0 => ?_)
  simp only [go_sem]
  refine hK1 _ ?_
  refine awp_seq_k (fun K2 hK2 => ?_)
  refine awp_seq_k (fun K3 hK3 => ?_)
  refine awp_ops (by kernel_rfl) rfl (fun g1 hg1 ops1 KR1 hops1 hKR1 => ?_)
  refine aops_eval 0 hops1 ?_
  simp only [go_sem]
  refine aops_pure hops1 rfl rfl rfl (awake_calls _ _) (CoL.refl _) ?_
  refine aops_eval 3 hops1 ?_
  simp only [go_sem]
  cases hfa : decide (cntPr p ≤ 600) with
  | false =>
    refine aops_pure hops1 rfl rfl rfl (few06_calls p hp _ _) (CoL.refl _) ?_
    refine aops_last 7 hops1 ?_
    simp only [go_sem, hfa]
    refine hKR1 _ ?_
    refine hK3 _ ?_
    refine awp_t rfl ?_
    refine awp_seq_k (fun K4 hK4 => ?_)
    refine awp_ops (by kernel_rfl) rfl (fun g2 hg2 ops2 KR2 hops2 hKR2 => ?_)
    refine aops_eval 0 hops2 ?_
    simp only [go_sem]
    refine aops_pure hops2 rfl rfl rfl (awake_calls _ _) (CoL.refl _) ?_
    refine aops_last 1 hops2 ?_
    simp only [go_sem]
    refine hKR2 _ ?_
    refine hK4 _ ?_
    refine awp_ret ?_
    refine ends_ev rfl ?_
    simp only [go_sem]
    exact Co.refl _
  | true =>
    refine aops_pure hops1 rfl rfl rfl (few06_calls p hp _ _) (CoL.refl _) ?_
    refine aops_eval 4 hops1 ?_
    simp only [go_sem, hfa]
    cases hfb : decide (count x 0 ≤ 200) with
    | false =>
      refine aops_pure hops1 rfl rfl rfl (few04_calls x hx _ _) (CoL.refl _) ?_
      refine aops_last 2 hops1 ?_
      simp only [go_sem, hfb]
      refine hKR1 _ ?_
      refine hK3 _ ?_
      refine awp_t rfl ?_
      refine awp_seq_k (fun K5 hK5 => ?_)
      refine awp_ops (by kernel_rfl) rfl (fun g2 hg2 ops2 KR2 hops2 hKR2 => ?_)
      refine aops_eval 0 hops2 ?_
      simp only [go_sem]
      refine aops_pure hops2 rfl rfl rfl (awake_calls _ _) (CoL.refl _) ?_
      refine aops_last 1 hops2 ?_
      simp only [go_sem]
      refine hKR2 _ ?_
      refine hK5 _ ?_
      refine awp_ret ?_
      refine ends_ev rfl ?_
      simp only [go_sem]
      exact Co.refl _
    | true =>
      refine aops_pure hops1 rfl rfl rfl (few04_calls x hx _ _) (CoL.refl _) ?_
      refine aops_last 2 hops1 ?_
      simp only [go_sem, hfb]
      refine hKR1 _ ?_
      refine hK3 _ ?_
      refine awp_f rfl ?_
      refine awp_skip ?_
      refine hK2 _ ?_
      refine awp_seq_k (fun K6 hK6 => ?_)
      have mp := (cntPr_sm p (of_decide_eq_true hfa)).1
      have mx := count_sm x 0 (by have := of_decide_eq_true hfb; omega)
      have hl := mp.1.1
      refine awp_ops (by kernel_rfl) rfl (fun g3 hg3 ops3 KR3 hops3 hKR3 => ?_)
      refine aops_eval 1 hops3 ?_
      simp only [go_sem]
      refine aops_pure hops3 rfl rfl rfl (tableNew_calls p mp _ _) (CoL.refl _) ?_
      refine aops_last 1 hops3 ?_
      simp only [go_sem]
      refine hKR3 _ ?_
      refine hK6 _ ?_
      refine awp_seq_k (fun K7 hK7 => ?_)
      refine awp_ops (by kernel_rfl) rfl (fun g4 hg4 ops4 KR4 hops4 hKR4 => ?_)
      refine aops_eval 1 hops4 ?_
      simp only [go_sem]
      have hn4_g0 : g4 ≠ g0 := fresh_g hg4 2 0 (by simp [go_sem])
      refine aops_pure hops4 rfl rfl rfl (tbProgO p mp _ _) (CoL.refl _) ?_
      refine aops_last 2 hops4 ?_
      simp only [go_sem]
      refine hKR4 _ ?_
      refine hK7 _ ?_
      refine awp_seq_k (fun K8 hK8 => ?_)
      refine awp_seq_k (fun K9 hK9 => ?_)
      refine awp_plain 1 (by kernel_rfl) rfl (fun g5 hg5 => ?_)
      simp only [go_sem]
      refine hK9 _ ?_
      refine awp_block ?_
      refine awp_loop (fun m s => ∃ (i : Nat) (l : List Dec), l.length = p.decls.length ∧ (∀ Y ∈ l, Y.formals.length ≤ 2000) ∧ i ≤ p.decls.length ∧ m = p.decls.length - i ∧ Le ⟨[(2, .ptr ⟨g0, 2, 0⟩ 0), (3, .ptr ⟨g0, 3, 0⟩ 0), (5, encTb p), (6, .ptr ⟨g4, 6, 0⟩ 0), (7, dN i)], [(⟨g0, 2, 0⟩, .box 30 (prC p)), (⟨g0, 3, 0⟩, .box 25 (tyC x)), (⟨g4, 6, 0⟩, .box 30 (.own ⟨g4, 30, 1⟩ p.decls.length :: exC p.main))] ++ treeG g4 30 l⟩ s) p.decls.length ?_ ?_
      · refine ⟨0, p.decls, rfl, fun Y hY => (mp.1.2 Y hY).2.1.1, Nat.zero_le _, rfl, le_app (A := [_, _, _]) (le_of ?_) ?_⟩
        · simp only [go_sem, get_treeG_ne (Ne.symm hn4_g0), hn4_g0]
          all_goals first | done | exact rfl | exact ⟨rfl, rfl⟩ | trivial | omega
        · exact fun q hq => (get_skip 30 (treeG_nm q hq).2 (A := [_]) rfl).trans (treeG_get q hq)
      · rintro m s ⟨i, l, hll, hsm, hi, rfl, hle⟩
        refine awp_keep hle ?_
        clear hle
        refine awp_seq_k (fun K10 hK10 => ?_)
        refine awp_seq_k (fun K11 hK11 => ?_)
        by_cases hlt : i < p.decls.length
        · have hiL : i < l.length := by omega
          have hX : l[i]? = some l[i] := List.getElem?_eq_getElem hiL
          have hXs := hsm _ (List.getElem_mem hiL)
          generalize l[i] = X at *
          obtain ⟨c, hc⟩ : ∃ c, X.formals.length = c := ⟨_, rfl⟩
          have hgm := @rowsG_get g4 30 i l X hX
          refine awp_plain 5 (by kernel_rfl) rfl (fun g6 hg6 => ?_)
          simp only [go_sem, hlt, decide_true, Ne.symm hn4_g0, prC, exC, tyC, List.cons_append, List.nil_append]
          refine hK11 _ ?_
          refine awp_t rfl ?_
          refine awp_skip ?_
          refine hK10 _ ?_
          refine awp_seq_k (fun K12 hK12 => ?_)
          refine awp_block ?_
          refine awp_seq_k (fun K13 hK13 => ?_)
          refine awp_plain 6 (by kernel_rfl) rfl (fun g8 hg8 => ?_)
          simp only [go_sem, get_treeG_head, rowsG_len, hll, hlt, hgm, encDN, deN, Ne.symm hn4_g0, exC, List.cons_append, List.nil_append, siC]
          refine hK13 _ ?_
          refine awp_seq_k (fun K14 hK14 => ?_)
          refine awp_plain 1 (by kernel_rfl) rfl (fun g9 hg9 => ?_)
          simp only [go_sem, List.nil_append]
          refine hK14 _ ?_
          refine awp_block ?_
          refine awp_loop (fun m s => ∃ (k : Nat) (l2 : List Dec) (Y : Dec), l2.length = p.decls.length ∧ (∀ Y ∈ l2, Y.formals.length ≤ 2000) ∧ l2[i]? = some Y ∧ Y.formals.length = c ∧ k ≤ c ∧ m = c - k ∧ Le ⟨[(2, .ptr ⟨g0, 2, 0⟩ 0), (3, .ptr ⟨g0, 3, 0⟩ 0), (5, encTb p), (6, .ptr ⟨g4, 6, 0⟩ 0), (7, dN i), (8, dN k)], [(⟨g0, 2, 0⟩, .box 30 (prC p)), (⟨g0, 3, 0⟩, .box 25 (tyC x)), (⟨g4, 6, 0⟩, .box 30 (.own ⟨g4, 30, 1⟩ p.decls.length :: exC p.main))] ++ treeG g4 30 l2⟩ s) c ?_ ?_
          · refine ⟨0, l.set i { X with name := chg }, { X with name := chg }, by rw [List.length_set]; exact hll, (fun Y hY => (List.mem_or_eq_of_mem_set hY).elim (hsm Y) fun e => by rw [e]; exact hXs), by rw [List.getElem?_set_self hiL], hc, Nat.zero_le _, rfl, le_app (A := [_, _, _]) (le_of ?_) ?_⟩
            · simp only [go_sem, hn4_g0, Ne.symm hn4_g0, prC, exC, tyC, List.cons_append, List.nil_append]
              all_goals first | done | exact rfl | exact ⟨rfl, rfl⟩ | trivial | omega
            · intro q hq
              refine (get_skip 30 (treeG_nm q hq).2 (A := [_, _, _]) rfl).trans ?_
              rw [if_pos rfl]
              exact tree_out2 (X2 := { X with name := chg }) hX rfl q hq
          · rintro m s ⟨k, l2, Y, hl2, hsm2, hY, hYc, hk, rfl, hle⟩
            refine awp_keep hle ?_
            clear hle
            have hgm2 := @rowsG_get g4 30 i l2 Y hY
            have hta := @get_treeG_at g4 30 i l2 Y hY
            refine awp_seq_k (fun K15 hK15 => ?_)
            refine awp_seq_k (fun K16 hK16 => ?_)
            by_cases hlk : k < c
            · have hkF : k < Y.formals.length := by omega
              have hgm3 := getM (f := encFm) hkF
              have hst := setM encFm Y.formals k { Y.formals[k] with name := chg }
              have hT := tree_in (g := g4) (d := 30) hY (F := Y.formals.set k { Y.formals[k] with name := chg }) (by rw [List.length_set])
              rw [← hst] at hT
              generalize Y.formals[k] = Z at *
              refine awp_plain 9 (by kernel_rfl) rfl (fun g10 hg10 => ?_)
              simp only [go_sem, hlk, hYc, decide_true, Ne.symm hn4_g0, prC, exC, tyC, List.cons_append, List.nil_append, siC, hgm2, get_treeG_head, rowsG_len, hl2, hlt, encDN, deN]
              refine hK16 _ ?_
              refine awp_t rfl ?_
              refine awp_skip ?_
              refine hK15 _ ?_
              refine awp_seq_k (fun K17 hK17 => ?_)
              refine awp_block ?_
              refine awp_plain 10 (by kernel_rfl) rfl (fun g12 hg12 => ?_)
              simp only [go_sem, hlk, hYc, arrFm, hgm3, encFm, fmC, Ne.symm hn4_g0, exC, List.cons_append, List.nil_append, siC, hta, hgm2, get_treeG_head, rowsG_len, hl2, hlt, encDN, deN]
              refine hK17 _ ?_
              refine awp_plain 3 (by kernel_rfl) rfl (fun g11 hg11 => ?_)
              simp only [go_sem, prC, exC, tyC, List.cons_append, List.nil_append]
              try simp (disch := omega) only [wrapN]
              refine ⟨_, ?_, k + 1, l2.set i { Y with formals := Y.formals.set k { Z with name := chg } }, { Y with formals := Y.formals.set k { Z with name := chg } }, by rw [List.length_set]; exact hl2, (fun Y2 hY2 => (List.mem_or_eq_of_mem_set hY2).elim (hsm2 Y2) fun e => by rw [e]; show (Y.formals.set _ _).length ≤ _; rw [List.length_set]; omega), List.getElem?_set_self (by omega), by show (Y.formals.set _ _).length = c; rw [List.length_set]; exact hYc, hlk, rfl, le_app (A := [_, _, _]) (le_of ?_) ?_⟩
              · omega
              · simp only [go_sem, hn4_g0, Ne.symm hn4_g0]
                all_goals first | done | exact rfl | exact ⟨rfl, rfl⟩ | trivial | omega
              · exact fun q hq => (get_skip 30 (treeG_nm q hq).2 (A := [_, _, _]) rfl).trans (hT q hq)
            · refine awp_plain 9 (by kernel_rfl) rfl (fun g10 hg10 => ?_)
              simp only [go_sem, hlk, hYc, decide_false, Ne.symm hn4_g0, prC, exC, tyC, List.cons_append, List.nil_append, siC, hgm2, get_treeG_head, rowsG_len, hl2, hlt, encDN, deN]
              refine hK16 _ ?_
              refine awp_f rfl ?_
              refine awp_exit ?_
              refine hK12 _ ?_
              refine awp_plain 3 (by kernel_rfl) rfl (fun g7 hg7 => ?_)
              simp only [go_sem, prC, exC, tyC, List.cons_append, List.nil_append]
              try simp (disch := omega) only [wrapN]
              refine ⟨_, ?_, i + 1, l2, hl2, hsm2, hlt, rfl, le_app (A := [_, _, _]) (le_of ?_) ?_⟩
              · omega
              · simp only [go_sem, hn4_g0, Ne.symm hn4_g0]
                all_goals first | done | exact rfl | exact ⟨rfl, rfl⟩ | trivial | omega
              · exact fun q hq => (get_skip 30 (treeG_nm q hq).2 (A := [_, _, _]) rfl).trans (treeG_self q hq)
        · refine awp_plain 5 (by kernel_rfl) rfl (fun g6 hg6 => ?_)
          simp only [go_sem, hlt, decide_false, Ne.symm hn4_g0, prC, exC, tyC, List.cons_append, List.nil_append]
          refine hK11 _ ?_
          refine awp_f rfl ?_
          refine awp_exit ?_
          refine hK8 _ ?_
          refine awp_seq_k (fun K18 hK18 => ?_)
          refine awp_ops (by kernel_rfl) rfl (fun g13 hg13 ops13 KR13 hops13 hKR13 => ?_)
          refine aops_eval 3 hops13 ?_
          simp only [go_sem, hn4_g0, List.nil_append]
          refine aops_pure hops13 rfl rfl rfl (tbFmsO p mp x.name _ _) (CoL.refl _) ?_
          refine aops_last 1 hops13 ?_
          simp only [go_sem, List.cons_append, List.nil_append]
          refine hKR13 _ ?_
          refine hK18 _ ?_
          refine awp_seq_k (fun K19 hK19 => ?_)
          refine awp_seq_k (fun K20 hK20 => ?_)
          refine awp_plain 1 (by kernel_rfl) rfl (fun g14 hg14 => ?_)
          simp only [go_sem, List.nil_append]
          refine hK20 _ ?_
          refine awp_block ?_
          have hnb : (fmsOf p x.name).length ≤ 2000 := (smDe_get mp x.name).2.1.1
          generalize hnf2 : (fmsOf p x.name).length = nf at *
          refine awp_loop (fun m s => ∃ (k : Nat) (F : List Formal), F.length = nf ∧ k ≤ nf ∧ m = nf - k ∧ Le { env := [(2, .ptr ⟨g0, 2, 0⟩ 0), (3, .ptr ⟨g0, 3, 0⟩ 0), (5, encTb p), (9, .own ⟨g13, 66, 1⟩ nf), (10, dN k)], σ := [(⟨g0, 2, 0⟩, .box 30 (prC p)), (⟨g0, 3, 0⟩, .box 25 (tyC x)), (⟨g13, 66, 1⟩, .arr 60 5 (F.map encFm))] } s) nf ?_ ?_
          · refine ⟨0, fmsOf p x.name, hnf2, Nat.zero_le _, rfl, le_of ?_⟩
            simp only [go_sem, hn4_g0, prC, exC, tyC, List.cons_append, List.nil_append]
            all_goals first | done | exact rfl | exact ⟨rfl, rfl⟩ | trivial | omega
          · rintro m s ⟨k, F, hF, hk, rfl, hle⟩
            refine awp_keep hle ?_
            clear hle
            refine awp_seq_k (fun K21 hK21 => ?_)
            refine awp_seq_k (fun K22 hK22 => ?_)
            by_cases hlt : k < nf
            · have hkF : k < F.length := by omega
              have hgm := getM (f := encFm) hkF
              have hst := setM encFm F k { F[k] with name := chg }
              generalize F[k] = X at *
              refine awp_plain 4 (by kernel_rfl) rfl (fun g15 hg15 => ?_)
              simp only [go_sem, hlt, decide_true, prC, exC, tyC, List.cons_append, List.nil_append]
              refine hK22 _ ?_
              refine awp_t rfl ?_
              refine awp_skip ?_
              refine hK21 _ ?_
              refine awp_seq_k (fun K23 hK23 => ?_)
              refine awp_block ?_
              refine awp_plain 5 (by kernel_rfl) rfl (fun g17 hg17 => ?_)
              simp only [go_sem, hkF, hgm, encFm, fmC, List.cons_append, List.nil_append]
              refine hK23 _ ?_
              refine awp_plain 3 (by kernel_rfl) rfl (fun g16 hg16 => ?_)
              simp only [go_sem, prC, exC, tyC, List.cons_append, List.nil_append]
              try simp (disch := omega) only [wrapN]
              refine ⟨_, ?_, k + 1, F.set k { X with name := chg }, by rw [List.length_set]; exact hF, hlt, rfl, le_of ?_⟩
              · omega
              simp only [go_sem, ← hst]
              all_goals first | done | exact rfl | exact ⟨rfl, rfl⟩ | trivial | omega
            · refine awp_plain 4 (by kernel_rfl) rfl (fun g15 hg15 => ?_)
              simp only [go_sem, hlt, decide_false, prC, exC, tyC, List.cons_append, List.nil_append]
              refine hK22 _ ?_
              refine awp_f rfl ?_
              refine awp_exit ?_
              refine hK19 _ ?_
              refine awp_seq_k (fun K24 hK24 => ?_)
              refine awp_ops (by kernel_rfl) rfl (fun g18 hg18 ops18 KR18 hops18 hKR18 => ?_)
              refine aops_eval 2 hops18 ?_
              simp only [go_sem, List.nil_append]
              cases hins : instOf p x 1 with
              | false =>
                have hf := tbFields_calls p mp x mx
                rw [hins, if_neg (by decide)] at hf
                refine aops_pure hops18 rfl rfl rfl (hf _ _) (CoL.refl _) ?_
                refine aops_last 5 hops18 ?_
                simp only [go_sem, List.nil_append]
                refine hKR18 _ ?_
                refine hK24 _ ?_
                refine awp_seq_k (fun K25 hK25 => ?_)
                refine awp_seq_k (fun K26 hK26 => ?_)
                refine awp_plain 1 (by kernel_rfl) rfl (fun g19 hg19 => ?_)
                simp only [go_sem, List.nil_append]
                refine hK26 _ ?_
                refine awp_block ?_
                refine awp_loop (fun m s => m = 0 ∧ Le { env := [(2, .ptr ⟨g0, 2, 0⟩ 0), (5, encTb p), (11, slPa []), (13, dN 0)], σ := [(⟨g0, 2, 0⟩, .box 30 (prC p))] } s) 0 ?_ ?_
                · refine ⟨rfl, le_of ?_⟩
                  simp only [go_sem, prC, exC, List.cons_append, List.nil_append]
                  all_goals first | done | exact rfl | exact ⟨rfl, rfl⟩ | trivial | omega
                · rintro m s ⟨rfl, hle⟩
                  refine awp_keep hle ?_
                  clear hle
                  refine awp_seq_k (fun K27 hK27 => ?_)
                  refine awp_seq_k (fun K28 hK28 => ?_)
                  refine awp_plain 4 (by kernel_rfl) rfl (fun g20 hg20 => ?_)
                  simp only [go_sem, List.map_nil, List.length_nil, show (((0 : Nat) : Int) < ((0 : Nat) : Int)) = False from eq_false (by decide), decide_false, prC, exC, List.cons_append, List.nil_append]
                  refine hK28 _ ?_
                  refine awp_f rfl ?_
                  refine awp_exit ?_
                  refine hK25 _ ?_
                  refine awp_seq_k (fun K29 hK29 => ?_)
                  refine awp_any 4 (by kernel_rfl) (by kernel_rfl) rfl (fun g23 hg23 ops23 KR23 hops23 hKR23 => ?_)
                  refine qrun_eval 1 hops23 ?_
                  simp only [go_sem, List.nil_append]
                  refine qrun_pure hops23 rfl rfl rfl (tbProg_calls p mp _ _) (CoL.refl _) rfl ?_
                  refine qrun_eval 1 hops23 ?_
                  simp only [go_sem, prC, exC, List.cons_append, List.nil_append]
                  refine qrun_pure hops23 rfl rfl rfl (prog06 true p hp _ _) (CoL.refl _) rfl ?_
                  refine qrun_last 0 hops23 ?_
                  simp only [go_sem, List.nil_append]
                  refine aops_last 1 hops23 ?_
                  simp only [go_sem, List.nil_append]
                  refine hKR23 _ ?_
                  refine hK29 _ ?_
                  refine awp_ret ?_
                  refine ends_ev rfl ?_
                  simp only [go_sem]
                  exact Co.refl _
              | true =>
                refine aops_pure hops18 rfl rfl rfl (tbFieldsO p mp x mx hins _ _) (CoL.refl _) ?_
                refine aops_last 5 hops18 ?_
                simp only [go_sem, List.cons_append, List.nil_append]
                refine hKR18 _ ?_
                refine hK24 _ ?_
                refine awp_seq_k (fun K30 hK30 => ?_)
                refine awp_seq_k (fun K31 hK31 => ?_)
                refine awp_plain 1 (by kernel_rfl) rfl (fun g19 hg19 => ?_)
                simp only [go_sem, List.nil_append]
                refine hK31 _ ?_
                refine awp_block ?_
                have hnb2 : (fldsT p x).length ≤ 1000000 := by
                  have := (smDe_get mp x.name).2.2.1.1
                  simpa [fldsT, fldsOf] using this
                clear hnf2
                generalize hnf : (fldsT p x).length = nf2 at *
                refine awp_loop (fun m s => ∃ (k : Nat) (F : List Param), F.length = nf2 ∧ k ≤ nf2 ∧ m = nf2 - k ∧ Le { env := [(2, .ptr ⟨g0, 2, 0⟩ 0), (5, encTb p), (11, .own ⟨g18, 80, 1⟩ nf2), (13, dN k)], σ := [(⟨g0, 2, 0⟩, .box 30 (prC p)), (⟨g18, 80, 1⟩, .arr 62 5 (F.map encPa))] } s) nf2 ?_ ?_
                · refine ⟨0, fldsT p x, hnf, Nat.zero_le _, rfl, le_of ?_⟩
                  simp only [go_sem, prC, exC, List.cons_append, List.nil_append]
                  all_goals first | done | exact rfl | exact ⟨rfl, rfl⟩ | trivial | omega
                · rintro m s ⟨k, F, hF, hk, rfl, hle⟩
                  refine awp_keep hle ?_
                  clear hle
                  refine awp_seq_k (fun K32 hK32 => ?_)
                  refine awp_seq_k (fun K33 hK33 => ?_)
                  by_cases hlt : k < nf2
                  · have hkF : k < F.length := by omega
                    have hgm := getM (f := encPa) hkF
                    have hst := setM encPa F k { F[k] with type := ⟨chg, F[k].type.args, F[k].type.pos⟩ }
                    generalize F[k] = X at *
                    refine awp_plain 4 (by kernel_rfl) rfl (fun g20 hg20 => ?_)
                    simp only [go_sem, hlt, decide_true, prC, exC, List.cons_append, List.nil_append]
                    refine hK33 _ ?_
                    refine awp_t rfl ?_
                    refine awp_skip ?_
                    refine hK32 _ ?_
                    refine awp_seq_k (fun K34 hK34 => ?_)
                    refine awp_block ?_
                    refine awp_plain 6 (by kernel_rfl) rfl (fun g22 hg22 => ?_)
                    simp only [go_sem, hkF, hgm, encPa, paC, List.cons_append, List.nil_append]
                    refine hK34 _ ?_
                    refine awp_plain 3 (by kernel_rfl) rfl (fun g21 hg21 => ?_)
                    simp only [go_sem, prC, exC, List.cons_append, List.nil_append]
                    try simp (disch := omega) only [wrapN]
                    refine ⟨_, ?_, k + 1, F.set k { X with type := ⟨chg, X.type.args, X.type.pos⟩ }, by rw [List.length_set]; exact hF, hlt, rfl, le_of ?_⟩
                    · omega
                    simp only [go_sem, ← hst]
                    all_goals first | done | exact rfl | exact ⟨rfl, rfl⟩ | trivial | omega
                  · refine awp_plain 4 (by kernel_rfl) rfl (fun g20 hg20 => ?_)
                    simp only [go_sem, hlt, decide_false, prC, exC, List.cons_append, List.nil_append]
                    refine hK33 _ ?_
                    refine awp_f rfl ?_
                    refine awp_exit ?_
                    refine hK30 _ ?_
                    refine awp_seq_k (fun K35 hK35 => ?_)
                    refine awp_any 4 (by kernel_rfl) (by kernel_rfl) rfl (fun g23 hg23 ops23 KR23 hops23 hKR23 => ?_)
                    refine qrun_eval 1 hops23 ?_
                    simp only [go_sem, List.nil_append]
                    refine qrun_pure hops23 rfl rfl rfl (tbProg_calls p mp _ _) (CoL.refl _) rfl ?_
                    refine qrun_eval 1 hops23 ?_
                    simp only [go_sem, prC, exC, List.cons_append, List.nil_append]
                    refine qrun_pure hops23 rfl rfl rfl (prog06 true p hp _ _) (CoL.refl _) rfl ?_
                    refine qrun_last 0 hops23 ?_
                    simp only [go_sem, List.nil_append]
                    refine aops_last 1 hops23 ?_
                    simp only [go_sem, List.nil_append]
                    refine hKR23 _ ?_
                    refine hK35 _ ?_
                    refine awp_ret ?_
                    refine ends_ev rfl ?_
                    simp only [go_sem]
                    exact Co.refl _
end Go.Proofs.T

