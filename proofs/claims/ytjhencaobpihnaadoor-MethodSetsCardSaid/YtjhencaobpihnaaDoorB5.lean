/- A part of the proof, under no conditions of its own: B5. -/
import Derived.Test.YtjhencaobpihnaaDoorB4
namespace Go.Proofs.T
open Go Go.Ab Go.RowKit

/-! ## The table -/

def encK (k : Str × Str) : Value := .agg #[.string k.1, .string k.2]
def tabE (l : List ((Str × Str) × Nat)) : List (Value × D) := l.map fun x => (encK x.1, dN x.2)
def lkp (l : List ((Str × Str) × Nat)) (k : Str × Str) : Option Nat := (l.find? fun x => decide (x.1 = k)).map (·.2)
theorem encK_inj {a b : Str × Str} : encK a = encK b ↔ a = b := by
  obtain ⟨a1, a2⟩ := a
  obtain ⟨b1, b2⟩ := b
  simp [encK]
theorem mget_tab : ∀ (l : List ((Str × Str) × Nat)) (k : Str × Str), mget (tabE l) (encK k) = (lkp l k).map fun n => dN n
  | [], k => rfl
  | x :: r, k => by
    have ih := mget_tab r k
    simp only [tabE, List.map_cons, mget, lkp, List.find?_cons, encK_inj] at ih ⊢
    by_cases h : x.1 = k
    · simp [h]
    · simp only [h, if_false, decide_false]
      exact ih
theorem mput_tab : ∀ (l : List ((Str × Str) × Nat)) (k : Str × Str) (n : Nat), lkp l k = none → mput (tabE l) (encK k) (dN n) = tabE (l ++ [(k, n)])
  | [], k, n, _ => rfl
  | x :: r, k, n, h => by
    have hx : ¬ x.1 = k := by
      intro e
      simp [lkp, e] at h
    have hr : lkp r k = none := by
      simpa [lkp, List.find?_cons, hx] using h
    have ih := mput_tab r k n hr
    simp only [tabE, List.map_cons, mput, encK_inj, hx, if_false, List.cons_append] at ih ⊢
    rw [ih]

/-- The key that a declaration is laid under. -/
def dKey (d : Dec) : Option (Str × Str) := if d.kind = 1 ∨ d.kind = 2 then some (d.name, ByteArray.empty) else if d.kind = 3 then some (d.name, ⟨#[46]⟩ ++ d.sig.name) else none
def tabTo (ds : List Dec) : Nat → List ((Str × Str) × Nat)
  | 0 => []
  | n + 1 => match ds[n]?.bind dKey with
    | some k => if (lkp (tabTo ds n) k).isSome then tabTo ds n else tabTo ds n ++ [(k, n)]
    | none => tabTo ds n
def tfind (ds : List Dec) (k : Str × Str) : Option Nat := ds.findIdx? fun d => decide (dKey d = some k)

theorem lkp_app (l : List ((Str × Str) × Nat)) (k k' : Str × Str) (n : Nat) : lkp (l ++ [(k', n)]) k = (lkp l k).or (if k' = k then some n else none) := by
  unfold lkp
  rw [List.find?_append]
  cases h : l.find? fun x => decide (x.1 = k) with
  | some x => simp
  | none => by_cases hk : k' = k <;> simp [hk]

theorem tabTo_find (ds : List Dec) (k : Str × Str) : ∀ n, n ≤ ds.length → lkp (tabTo ds n) k = (ds.take n).findIdx? fun d => decide (dKey d = some k)
  | 0, _ => rfl
  | n + 1, h => by
    have ih := tabTo_find ds k n (by omega)
    rw [List.take_add_one, List.findIdx?_append, ← ih]
    have hd : ds[n]? = some ds[n] := List.getElem?_eq_getElem (by omega)
    have hlen : (ds.take n).length = n := by rw [List.length_take]; omega
    have e : tabTo ds (n + 1) = match dKey ds[n] with
      | some k => if (lkp (tabTo ds n) k).isSome then tabTo ds n else tabTo ds n ++ [(k, n)]
      | none => tabTo ds n := by simp only [tabTo, hd, Option.bind_some]
    rw [e]
    simp only [hd, Option.toList_some, List.findIdx?_cons, List.findIdx?_nil, hlen]
    cases hk : dKey ds[n] with
    | none =>
      cases lkp (tabTo ds n) k <;> simp
    | some k' =>
      by_cases he : k' = k
      · subst he
        cases hl : lkp (tabTo ds n) k' with
        | none => simp [lkp_app, hl]
        | some m => simp [hl]
      · simp only
        split
        · cases lkp (tabTo ds n) k <;> simp [he]
        · rw [lkp_app]
          cases lkp (tabTo ds n) k <;> simp [he]
theorem tab_find (ds : List Dec) (k : Str × Str) : lkp (tabTo ds ds.length) k = tfind ds k := by
  rw [tabTo_find ds k ds.length (Nat.le_refl _), List.take_length]
  rfl

def ksK : KS := .agg [.str, .str]
def tbC (p : Prg) (l : List ((Str × Str) × Nat)) : List D := prC p ++ [.fmap ksK (tabE l)]
def encTb (p : Prg) : D := .eptr (tbC p (tabTo p.decls p.decls.length))

theorem mget_tab' (l : List ((Str × Str) × Nat)) (a b : Str) : mget (tabE l) (.agg #[.string a, .string b]) = (lkp l (a, b)).map fun n => dN n := mget_tab l (a, b)
theorem mput_tab' (l : List ((Str × Str) × Nat)) (a b : Str) (n : Nat) (h : lkp l (a, b) = none) : mput (tabE l) (.agg #[.string a, .string b]) (dN n) = tabE (l ++ [((a, b), n)]) := mput_tab l (a, b) n h

theorem tableNew_calls (p : Prg) (h : smPr p) (g d : Nat) : ACalls E 9 [encPr p] [] g d (encTb p) [] := by
  have hlen := h.1.1
  refine acalls_of_awp (fn := Tryd.f9) (N := 59) Tryd.call9 Tryd.func9 rfl rfl (by simp) ?_
  simp only [go_sem]
  refine awp_seq_k (fun K1 hK1 => ?_)
  refine awp_plain 2 (by kernel_rfl) rfl (fun g0 hg0 => ?_)
  simp only [go_sem, List.nil_append]
  refine hK1 _ ?_
  refine awp_seq_k (fun K2 hK2 => ?_)
  refine awp_ops (by kernel_rfl) rfl (fun g1 hg1 ops1 KR1 hops1 hKR1 => ?_)
  refine aops_eval 1 hops1 ?_
  simp only [go_sem, List.nil_append]
  refine aops_pure hops1 rfl rfl rfl (clonePr p h _ _) (CoL.refl _) ?_
  refine aops_last 4 hops1 ?_
  simp only [go_sem, prC, exC, List.cons_append, List.nil_append]
  refine hKR1 _ ?_
  refine hK2 _ ?_
  refine awp_seq_k (fun K3 hK3 => ?_)
  refine awp_seq_k (fun K4 hK4 => ?_)
  refine awp_plain 7 (by kernel_rfl) rfl (fun g2 hg2 => ?_)
  simp only [go_sem, List.nil_append]
  refine hK4 _ ?_
  refine awp_block ?_
  refine awp_loop (fun m s => ∃ k, k ≤ p.decls.length ∧ m = p.decls.length - k ∧
      Le { env := [(3, .ptr ⟨g1, 13, 0⟩ 0), (18, slDe p.decls), (19, dN p.decls.length), (20, dN k)],
           σ := [(⟨g1, 13, 0⟩, .box 66 (prC p ++ [.mref ⟨g1, 11, 0⟩])), (⟨g1, 11, 0⟩, .map ksK (tabE (tabTo p.decls k)))] } s) p.decls.length ?_ ?_
  · refine ⟨0, Nat.zero_le _, rfl, le_of ?_⟩
    simp only [go_sem, slDe, prC, exC, List.cons_append, List.nil_append, tabTo, tabE, ksK, List.map_nil, prC, exC, List.cons_append, List.nil_append]
    trivial
  · rintro m s ⟨k, hk, rfl, hle⟩
    refine awp_keep hle ?_
    clear hle
    by_cases hlt : k < p.decls.length
    · refine awp_seq_k (fun K5 hK5 => ?_)
      refine awp_plain 1 (by kernel_rfl) rfl (fun g3 hg3 => ?_)
      simp only [go_sem, hlt, prC, exC, List.cons_append, List.nil_append, prC, exC, List.cons_append, List.nil_append, slDe]
      refine hK5 _ ?_
      refine awp_seq_k (fun K6 hK6 => ?_)
      refine awp_t rfl ?_
      refine awp_skip ?_
      refine hK6 _ ?_
      refine awp_seq_k (fun K7 hK7 => ?_)
      refine awp_block ?_
      refine awp_seq_k (fun K8 hK8 => ?_)
      refine awp_plain 6 (by kernel_rfl) rfl (fun g4 hg4 => ?_)
      simp only [go_sem, getM hlt, exC, List.cons_append, List.nil_append, exC, List.cons_append, List.nil_append, deC, siC]
      refine hK8 _ ?_
      refine awp_seq_k (fun K9 hK9 => ?_)
      refine awp_plain 5 (by kernel_rfl) rfl (fun g5 hg5 => ?_)
      simp only [go_sem, List.cons_append, List.nil_append, List.cons_append, List.nil_append]
      refine hK9 _ ?_
      refine awp_seq_k (fun K10 hK10 => ?_)
      refine awp_seq_k (fun K11 hK11 => ?_)
      refine awp_plain 2 (by kernel_rfl) rfl (fun g6 hg6 => ?_)
      simp only [go_sem, List.nil_append, List.nil_append]
      refine hK11 _ ?_
      refine awp_block ?_
      refine awp_seq_k (fun K12 hK12 => ?_)
      refine awp_seq_k (fun K13 hK13 => ?_)
      by_cases k1 : p.decls[k].kind = 1
      · refine awp_plain 2 (by kernel_rfl) rfl (fun g7 hg7 => ?_)
        simp only [go_sem, k1, decide_true, List.nil_append, List.nil_append]
        refine hK13 _ ?_
        refine awp_t rfl ?_
        refine awp_skip ?_
        refine hK12 _ ?_
        refine awp_t rfl ?_
        refine awp_skip ?_
        refine hK10 _ ?_
        refine awp_seq_k (fun K14 hK14 => ?_)
        have hkey : dKey p.decls[k] = some (p.decls[k].name, ByteArray.empty) := by simp [dKey, k1]
        cases hlk : lkp (tabTo p.decls k) (p.decls[k].name, ByteArray.empty) with
        | some j =>
          have hT : tabTo p.decls (k + 1) = tabTo p.decls k := by simp [tabTo, List.getElem?_eq_getElem hlt, hkey, hlk]
          refine awp_any 10 (by kernel_rfl) (by kernel_rfl) rfl (fun g11 hg11 ops11 KR11 hops11 hKR11 => ?_)
          refine qrun_last 10 hops11 ?_
          simp only [go_sem, mget_tab', KS.fits, KC.fitsL, KC.fits, ksK, Bool.and_self, hlk, List.nil_append, List.nil_append]
          refine aops_last 1 hops11 ?_
          simp only [go_sem, List.nil_append, List.nil_append]
          refine hKR11 _ ?_
          refine hK14 _ ?_
          refine awp_seq_k (fun K15 hK15 => ?_)
          refine awp_plain 2 (by kernel_rfl) rfl (fun g12 hg12 => ?_)
          simp only [go_sem, Bool.not_true, List.nil_append, List.nil_append]
          refine hK15 _ ?_
          refine awp_f rfl ?_
          refine awp_skip ?_
          refine hK7 _ ?_
          refine awp_plain 2 (by kernel_rfl) rfl (fun g14 hg14 => ?_)
          simp only [go_sem, prC, exC, List.cons_append, List.nil_append, prC, exC, List.cons_append, List.nil_append, slDe]
          try simp (disch := omega) only [wrapN]
          refine ⟨_, ?_, k + 1, hlt, rfl, le_of ?_⟩
          · omega
          rw [hT]
          simp only [go_sem, ksK]
          omega
        | none =>
          have hT : tabTo p.decls (k + 1) = tabTo p.decls k ++ [((p.decls[k].name, ByteArray.empty), k)] := by simp [tabTo, List.getElem?_eq_getElem hlt, hkey, hlk]
          have hput := mput_tab' _ p.decls[k].name ByteArray.empty k hlk
          refine awp_any 10 (by kernel_rfl) (by kernel_rfl) rfl (fun g11 hg11 ops11 KR11 hops11 hKR11 => ?_)
          refine qrun_last 10 hops11 ?_
          simp only [go_sem, mget_tab', KS.fits, KC.fitsL, KC.fits, ksK, Bool.and_self, hlk, List.nil_append, List.nil_append]
          refine aops_last 1 hops11 ?_
          simp only [go_sem, List.nil_append, List.nil_append]
          refine hKR11 _ ?_
          refine hK14 _ ?_
          refine awp_seq_k (fun K16 hK16 => ?_)
          refine awp_plain 2 (by kernel_rfl) rfl (fun g12 hg12 => ?_)
          simp only [go_sem, Bool.not_false, List.nil_append, List.nil_append]
          refine hK16 _ ?_
          refine awp_t rfl ?_
          refine awp_any 6 (by kernel_rfl) (by kernel_rfl) rfl (fun g13 hg13 ops13 KR13 hops13 hKR13 => ?_)
          refine qrun_last 6 hops13 ?_
          simp only [go_sem, List.nil_append, List.nil_append]
          refine aops_last 1 hops13 ?_
          simp only [go_sem, hput, KS.fits, KC.fitsL, KC.fits, Bool.and_self]
          refine hKR13 _ ?_
          refine hK7 _ ?_
          refine awp_plain 2 (by kernel_rfl) rfl (fun g14 hg14 => ?_)
          simp only [go_sem, prC, exC, List.cons_append, List.nil_append, prC, exC, List.cons_append, List.nil_append, slDe]
          try simp (disch := omega) only [wrapN]
          refine ⟨_, ?_, k + 1, hlt, rfl, le_of ?_⟩
          · omega
          rw [hT]
          simp only [go_sem, ksK]
          omega
      · by_cases k2 : p.decls[k].kind = 2
        · refine awp_plain 2 (by kernel_rfl) rfl (fun g7 hg7 => ?_)
          simp only [go_sem, k1, decide_false, List.nil_append, List.nil_append]
          refine hK13 _ ?_
          refine awp_f rfl ?_
          refine awp_plain 2 (by kernel_rfl) rfl (fun g8 hg8 => ?_)
          simp only [go_sem, k2, decide_true, List.nil_append, List.nil_append]
          refine hK12 _ ?_
          refine awp_t rfl ?_
          refine awp_skip ?_
          refine hK10 _ ?_
          refine awp_seq_k (fun K17 hK17 => ?_)
          have hkey : dKey p.decls[k] = some (p.decls[k].name, ByteArray.empty) := by simp [dKey, k2]
          cases hlk : lkp (tabTo p.decls k) (p.decls[k].name, ByteArray.empty) with
          | some j =>
            have hT : tabTo p.decls (k + 1) = tabTo p.decls k := by simp [tabTo, List.getElem?_eq_getElem hlt, hkey, hlk]
            refine awp_any 10 (by kernel_rfl) (by kernel_rfl) rfl (fun g11 hg11 ops11 KR11 hops11 hKR11 => ?_)
            refine qrun_last 10 hops11 ?_
            simp only [go_sem, mget_tab', KS.fits, KC.fitsL, KC.fits, ksK, Bool.and_self, hlk, List.nil_append, List.nil_append]
            refine aops_last 1 hops11 ?_
            simp only [go_sem, List.nil_append, List.nil_append]
            refine hKR11 _ ?_
            refine hK17 _ ?_
            refine awp_seq_k (fun K18 hK18 => ?_)
            refine awp_plain 2 (by kernel_rfl) rfl (fun g12 hg12 => ?_)
            simp only [go_sem, Bool.not_true, List.nil_append, List.nil_append]
            refine hK18 _ ?_
            refine awp_f rfl ?_
            refine awp_skip ?_
            refine hK7 _ ?_
            refine awp_plain 2 (by kernel_rfl) rfl (fun g14 hg14 => ?_)
            simp only [go_sem, prC, exC, List.cons_append, List.nil_append, prC, exC, List.cons_append, List.nil_append, slDe]
            try simp (disch := omega) only [wrapN]
            refine ⟨_, ?_, k + 1, hlt, rfl, le_of ?_⟩
            · omega
            rw [hT]
            simp only [go_sem, ksK]
            omega
          | none =>
            have hT : tabTo p.decls (k + 1) = tabTo p.decls k ++ [((p.decls[k].name, ByteArray.empty), k)] := by simp [tabTo, List.getElem?_eq_getElem hlt, hkey, hlk]
            have hput := mput_tab' _ p.decls[k].name ByteArray.empty k hlk
            refine awp_any 10 (by kernel_rfl) (by kernel_rfl) rfl (fun g11 hg11 ops11 KR11 hops11 hKR11 => ?_)
            refine qrun_last 10 hops11 ?_
            simp only [go_sem, mget_tab', KS.fits, KC.fitsL, KC.fits, ksK, Bool.and_self, hlk, List.nil_append, List.nil_append]
            refine aops_last 1 hops11 ?_
            simp only [go_sem, List.nil_append, List.nil_append]
            refine hKR11 _ ?_
            refine hK17 _ ?_
            refine awp_seq_k (fun K19 hK19 => ?_)
            refine awp_plain 2 (by kernel_rfl) rfl (fun g12 hg12 => ?_)
            simp only [go_sem, Bool.not_false, List.nil_append, List.nil_append]
            refine hK19 _ ?_
            refine awp_t rfl ?_
            refine awp_any 6 (by kernel_rfl) (by kernel_rfl) rfl (fun g13 hg13 ops13 KR13 hops13 hKR13 => ?_)
            refine qrun_last 6 hops13 ?_
            simp only [go_sem, List.nil_append, List.nil_append]
            refine aops_last 1 hops13 ?_
            simp only [go_sem, hput, KS.fits, KC.fitsL, KC.fits, Bool.and_self]
            refine hKR13 _ ?_
            refine hK7 _ ?_
            refine awp_plain 2 (by kernel_rfl) rfl (fun g14 hg14 => ?_)
            simp only [go_sem, prC, exC, List.cons_append, List.nil_append, prC, exC, List.cons_append, List.nil_append, slDe]
            try simp (disch := omega) only [wrapN]
            refine ⟨_, ?_, k + 1, hlt, rfl, le_of ?_⟩
            · omega
            rw [hT]
            simp only [go_sem, ksK]
            omega
        · by_cases k3 : p.decls[k].kind = 3
          · have hsz : p.decls[k].sig.name.size ≤ 1000000 := (h.1.2 _ (List.getElem_mem hlt)).2.2.2.2.2.2.1.1
            refine awp_plain 2 (by kernel_rfl) rfl (fun g7 hg7 => ?_)
            simp only [go_sem, k1, decide_false, List.nil_append, List.nil_append]
            refine hK13 _ ?_
            refine awp_f rfl ?_
            refine awp_plain 2 (by kernel_rfl) rfl (fun g8 hg8 => ?_)
            simp only [go_sem, k2, decide_false, List.nil_append, List.nil_append]
            refine hK12 _ ?_
            refine awp_f rfl ?_
            refine awp_seq_k (fun K20 hK20 => ?_)
            refine awp_plain 2 (by kernel_rfl) rfl (fun g9 hg9 => ?_)
            simp only [go_sem, k3, decide_true, List.nil_append, List.nil_append]
            refine hK20 _ ?_
            refine awp_t rfl ?_
            have hs0 : 1 + p.decls[k].sig.name.size ≤ 9223372036854775807 := by omega
            refine awp_plain 6 (by kernel_rfl) rfl (fun g10 hg10 => ?_)
            simp only [go_sem, hs0, List.cons_append, List.nil_append, List.cons_append, List.nil_append]
            try simp (disch := omega) only [wrapN, wrapB, Int.tdiv_eq_ediv_of_nonneg, Int.tmod_eq_emod_of_nonneg]
            refine hK10 _ ?_
            refine awp_seq_k (fun K21 hK21 => ?_)
            have hkey : dKey p.decls[k] = some (p.decls[k].name, ⟨#[46]⟩ ++ p.decls[k].sig.name) := by simp [dKey, k3]
            cases hlk : lkp (tabTo p.decls k) (p.decls[k].name, (⟨#[46]⟩ ++ p.decls[k].sig.name)) with
            | some j =>
              have hT : tabTo p.decls (k + 1) = tabTo p.decls k := by simp [tabTo, List.getElem?_eq_getElem hlt, hkey, hlk]
              refine awp_any 10 (by kernel_rfl) (by kernel_rfl) rfl (fun g11 hg11 ops11 KR11 hops11 hKR11 => ?_)
              refine qrun_last 10 hops11 ?_
              simp only [go_sem, mget_tab', KS.fits, KC.fitsL, KC.fits, ksK, Bool.and_self, hlk, List.nil_append, List.nil_append]
              refine aops_last 1 hops11 ?_
              simp only [go_sem, List.nil_append, List.nil_append]
              refine hKR11 _ ?_
              refine hK21 _ ?_
              refine awp_seq_k (fun K22 hK22 => ?_)
              refine awp_plain 2 (by kernel_rfl) rfl (fun g12 hg12 => ?_)
              simp only [go_sem, Bool.not_true, List.nil_append, List.nil_append]
              refine hK22 _ ?_
              refine awp_f rfl ?_
              refine awp_skip ?_
              refine hK7 _ ?_
              refine awp_plain 2 (by kernel_rfl) rfl (fun g14 hg14 => ?_)
              simp only [go_sem, prC, exC, List.cons_append, List.nil_append, prC, exC, List.cons_append, List.nil_append, slDe]
              try simp (disch := omega) only [wrapN]
              refine ⟨_, ?_, k + 1, hlt, rfl, le_of ?_⟩
              · omega
              rw [hT]
              simp only [go_sem, ksK]
              omega
            | none =>
              have hT : tabTo p.decls (k + 1) = tabTo p.decls k ++ [((p.decls[k].name, (⟨#[46]⟩ ++ p.decls[k].sig.name)), k)] := by simp [tabTo, List.getElem?_eq_getElem hlt, hkey, hlk]
              have hput := mput_tab' _ p.decls[k].name (⟨#[46]⟩ ++ p.decls[k].sig.name) k hlk
              refine awp_any 10 (by kernel_rfl) (by kernel_rfl) rfl (fun g11 hg11 ops11 KR11 hops11 hKR11 => ?_)
              refine qrun_last 10 hops11 ?_
              simp only [go_sem, mget_tab', KS.fits, KC.fitsL, KC.fits, ksK, Bool.and_self, hlk, List.nil_append, List.nil_append]
              refine aops_last 1 hops11 ?_
              simp only [go_sem, List.nil_append, List.nil_append]
              refine hKR11 _ ?_
              refine hK21 _ ?_
              refine awp_seq_k (fun K23 hK23 => ?_)
              refine awp_plain 2 (by kernel_rfl) rfl (fun g12 hg12 => ?_)
              simp only [go_sem, Bool.not_false, List.nil_append, List.nil_append]
              refine hK23 _ ?_
              refine awp_t rfl ?_
              refine awp_any 6 (by kernel_rfl) (by kernel_rfl) rfl (fun g13 hg13 ops13 KR13 hops13 hKR13 => ?_)
              refine qrun_last 6 hops13 ?_
              simp only [go_sem, List.nil_append, List.nil_append]
              refine aops_last 1 hops13 ?_
              simp only [go_sem, hput, KS.fits, KC.fitsL, KC.fits, Bool.and_self]
              refine hKR13 _ ?_
              refine hK7 _ ?_
              refine awp_plain 2 (by kernel_rfl) rfl (fun g14 hg14 => ?_)
              simp only [go_sem, prC, exC, List.cons_append, List.nil_append, prC, exC, List.cons_append, List.nil_append, slDe]
              try simp (disch := omega) only [wrapN]
              refine ⟨_, ?_, k + 1, hlt, rfl, le_of ?_⟩
              · omega
              rw [hT]
              simp only [go_sem, ksK]
              omega
          · have hkey : dKey p.decls[k] = none := by simp [dKey, k1, k2, k3]
            have hT : tabTo p.decls (k + 1) = tabTo p.decls k := by simp [tabTo, List.getElem?_eq_getElem hlt, hkey]
            refine awp_plain 2 (by kernel_rfl) rfl (fun g7 hg7 => ?_)
            simp only [go_sem, k1, decide_false, List.nil_append, List.nil_append]
            refine hK13 _ ?_
            refine awp_f rfl ?_
            refine awp_plain 2 (by kernel_rfl) rfl (fun g8 hg8 => ?_)
            simp only [go_sem, k2, decide_false, List.nil_append, List.nil_append]
            refine hK12 _ ?_
            refine awp_f rfl ?_
            refine awp_seq_k (fun K24 hK24 => ?_)
            refine awp_plain 2 (by kernel_rfl) rfl (fun g9 hg9 => ?_)
            simp only [go_sem, k3, decide_false, List.nil_append, List.nil_append]
            refine hK24 _ ?_
            refine awp_f rfl ?_
            refine awp_exit ?_
            refine hK7 _ ?_
            refine awp_plain 2 (by kernel_rfl) rfl (fun g14 hg14 => ?_)
            simp only [go_sem, prC, exC, List.cons_append, List.nil_append, prC, exC, List.cons_append, List.nil_append, slDe]
            try simp (disch := omega) only [wrapN]
            refine ⟨_, ?_, k + 1, hlt, rfl, le_of ?_⟩
            · omega
            rw [hT]
            simp only [go_sem, ksK]
            omega
    · refine awp_seq_k (fun K25 hK25 => ?_)
      refine awp_plain 1 (by kernel_rfl) rfl (fun g3 hg3 => ?_)
      simp only [go_sem, hlt, prC, exC, List.cons_append, List.nil_append, prC, exC, List.cons_append, List.nil_append, slDe]
      refine hK25 _ ?_
      refine awp_seq_k (fun K26 hK26 => ?_)
      refine awp_f rfl ?_
      refine awp_exit ?_
      refine hK3 _ ?_
      refine awp_seq_k (fun K27 hK27 => ?_)
      have : k = p.decls.length := by omega
      subst this
      refine awp_plain 2 (by kernel_rfl) rfl (fun g15 hg15 => ?_)
      simp only [go_sem, List.nil_append, List.nil_append]
      refine hK27 _ ?_
      refine awp_ret ?_
      refine ret_fmap ⟨g1, 11, 0⟩ ?_
      simp only [go_sem]
      refine ret_still ⟨g1, 13, 0⟩ ?_
      simp only [go_sem, boxD]
      refine ends_ev rfl ?_
      simp only [go_sem]
      exact Co.refl _

/-! Looking up. -/
def zDe : List D := [dI 0, .val (.string ByteArray.empty), .val (.slice none 0 0), .val (.slice none 0 0), .val (.slice none 0 0), .val (.string ByteArray.empty), .val (.slice none 0 0)] ++ zSi ++ [dI 0, .val (.string ByteArray.empty), .val (.string ByteArray.empty), .val (.slice none 0 0), dI 0, .val (.slice none 0 0), .val (.slice none 0 0), dI 0] ++ [dI 0]
def zeroDe : Dec := ⟨0, ByteArray.empty, [], [], [], ByteArray.empty, [], zeroSi, zeroEx, 0⟩
theorem coZeroDe : Co (.agg zDe) (encDe zeroDe) := .agg (.cons (.refl _) (.cons (.refl _) (.cons (.nil _) (.cons (.nil _) (.cons (.nil _) (.cons (.refl _) (.cons (.nil _) (.cons (.refl _) (.cons (.nil _) (.cons (.nil _) (.cons (.refl _) (.cons (.nil _) (.cons (.refl _) (.cons (.refl _) (.cons (.refl _) (.cons (.refl _) (.cons (.refl _) (.cons (.nil _) (.cons (.refl _) (.cons (.nil _) (.cons (.nil _) (.cons (.refl _) (.cons (.refl _) .nil)))))))))))))))))))))))
def getDe (p : Prg) (k : Str × Str) : Option Dec := (tfind p.decls k).bind fun i => p.decls[i]?
theorem getDe_some {p : Prg} {k : Str × Str} {i : Nat} (h : tfind p.decls k = some i) : ∃ hi : i < p.decls.length, getDe p k = some p.decls[i] := by
  obtain ⟨hi, _⟩ := List.findIdx?_eq_some_iff_getElem.1 h
  exact ⟨hi, by simp [getDe, h, hi]⟩

theorem get_calls (p : Prg) (a b : Str) (g d : Nat) : ACalls E 45 [encTb p, .agg [.val (.string a), .val (.string b)]] [] g d (.tup [encDe ((getDe p (a, b)).getD zeroDe), dB (getDe p (a, b)).isSome]) [] := by
  have hlk := tab_find p.decls (a, b)
  refine acalls_of_awp (fn := Tryd.f45) (N := 31) Tryd.call45 Tryd.func45 rfl rfl (by simp) ?_
  simp only [go_sem]
  refine awp_seq_k (fun K1 hK1 => ?_)
  refine awp_plain 3 (by kernel_rfl) rfl (fun g0 hg0 => ?_)
  simp only [go_sem, encTb, tbC, prC, exC, List.cons_append, List.nil_append]
  refine hK1 _ ?_
  refine awp_seq_k (fun K2 hK2 => ?_)
  refine awp_seq_k (fun K3 hK3 => ?_)
  refine awp_plain 2 (by kernel_rfl) rfl (fun g1 hg1 => ?_)
  simp only [go_sem, List.nil_append]
  refine hK3 _ ?_
  refine awp_f rfl ?_
  refine awp_skip ?_
  refine hK2 _ ?_
  refine awp_seq_k (fun K4 hK4 => ?_)
  cases hf : tfind p.decls (a, b) with
  | none =>
    rw [hf] at hlk
    refine awp_any 10 (by kernel_rfl) (by kernel_rfl) rfl (fun g3 hg3 ops3 KR3 hops3 hKR3 => ?_)
    refine qrun_last 10 hops3 ?_
    simp only [go_sem, mget_tab', KS.fits, KC.fitsL, KC.fits, ksK, Bool.and_self, hlk, List.nil_append]
    refine aops_last 1 hops3 ?_
    simp only [go_sem, List.nil_append]
    refine hKR3 _ ?_
    refine hK4 _ ?_
    refine awp_seq_k (fun K5 hK5 => ?_)
    refine awp_seq_k (fun K6 hK6 => ?_)
    refine awp_plain 2 (by kernel_rfl) rfl (fun g4 hg4 => ?_)
    simp only [go_sem, Bool.not_false, List.nil_append]
    refine hK6 _ ?_
    refine awp_t rfl ?_
    refine awp_seq_k (fun K7 hK7 => ?_)
    refine awp_plain 3 (by kernel_rfl) rfl (fun g5 hg5 => ?_)
    simp only [go_sem, List.cons_append, List.nil_append]
    refine hK7 _ ?_
    refine awp_ret ?_
    have : getDe p (a, b) = none := by simp [getDe, hf]
    rw [this]
    refine ends_ev rfl ?_
    simp only [go_sem]
    exact Co.tup (.cons coZeroDe (.cons (.refl _) .nil))
  | some i =>
    rw [hf] at hlk
    obtain ⟨hi, hg⟩ := getDe_some hf
    refine awp_any 10 (by kernel_rfl) (by kernel_rfl) rfl (fun g3 hg3 ops3 KR3 hops3 hKR3 => ?_)
    refine qrun_last 10 hops3 ?_
    simp only [go_sem, mget_tab', KS.fits, KC.fitsL, KC.fits, ksK, Bool.and_self, hlk, List.nil_append]
    refine aops_last 1 hops3 ?_
    simp only [go_sem, List.nil_append]
    refine hKR3 _ ?_
    refine hK4 _ ?_
    refine awp_seq_k (fun K8 hK8 => ?_)
    refine awp_seq_k (fun K9 hK9 => ?_)
    refine awp_plain 2 (by kernel_rfl) rfl (fun g4 hg4 => ?_)
    simp only [go_sem, Bool.not_true, List.nil_append]
    refine hK9 _ ?_
    refine awp_f rfl ?_
    refine awp_skip ?_
    refine hK8 _ ?_
    refine awp_seq_k (fun K10 hK10 => ?_)
    refine awp_plain 10 (by kernel_rfl) rfl (fun g6 hg6 => ?_)
    simp only [go_sem, getM hi, exC, List.cons_append, List.nil_append, exC, List.cons_append, List.nil_append, deC, siC]
    refine hK10 _ ?_
    refine awp_ret ?_
    rw [hg]
    refine ends_ev rfl ?_
    simp only [go_sem]
    exact Co.refl _
end Go.Proofs.T

