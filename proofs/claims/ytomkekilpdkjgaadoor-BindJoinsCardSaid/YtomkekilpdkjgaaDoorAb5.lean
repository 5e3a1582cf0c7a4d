/- A part of the proof, under no conditions of its own: Ab5. -/
import Derived.Test.YtomkekilpdkjgaaDoorAb4
import Derived.Laws.Strings
import Derived.Laws.Build
import Derived.Laws.Pointers
import Derived.Laws.Small
/-
  The reading operations, all of them.
-/
namespace Go.Ab
open Go Go.RowKit

theorem bytes_eq_iff (a b : ByteArray) : (a.toList == b.toList) = decide (a = b) := by
  rw [Bool.eq_iff_iff]
  simp only [beq_iff_eq, decide_eq_true_eq, ByteArray.toList_eq]
  constructor
  · intro h
    cases a; cases b
    simp only at h
    congr
    exact Array.toList_inj.1 h
  · intro h; rw [h]

section
variable {P : Program} {G : Gh} {w : World}

theorem bool_run {op : BinOp} {t : TypeId} {a b : Bool} {v : Value} (h : boolD P t op a b = some v) : (binOp op t (.bool a) (.bool b)).run P w = .ok v w := by
  unfold boolD at h
  split at h
  · rename_i ht
    have ht' : P.underlying t = some .bool := by
      unfold isBoolT at ht; split at ht
      · assumption
      · cases ht
    have he := run_equal_bool w t a b ht'
    cases op <;> simp only [eqR, Option.some.injEq] at h
    all_goals first
      | (cases h; done)
      | (subst h; simp only [binOp, Sem.run_bind, he, Result.andThen_ok, Sem.run_pure]; cases a <;> cases b <;> rfl)
  · cases h

theorem ptr_run {op : BinOp} {t : TypeId} {a b : Option Addr} {v : Value} (h : ptrD P t op a b = some v) : (binOp op t (.pointer a) (.pointer b)).run P w = .ok v w := by
  unfold ptrD at h
  split at h
  · split at h
    · rename_i ht
      have ht' : P.underlying t = some (.pointer (P.pointee t)) := by
        unfold isPtrT at ht; split at ht
        · rename_i e he; rw [he]; simp [Program.pointee, he]
        · cases ht
      have he := run_equal_pointer_nil w t a ht'
      cases op <;> simp only [eqR, Option.some.injEq] at h
      all_goals first
        | (cases h; done)
        | (subst h; simp only [binOp, Sem.run_bind, he, Result.andThen_ok, Sem.run_pure])
    · cases h
  · cases h

theorem guard_ptr {op : BinOp} {t : TypeId} {xo yo : Operand} {a b : Option Addr} : eqGuard op t xo yo (.pointer a) (.pointer b) = pure () := by
  unfold eqGuard
  split <;> rfl

theorem ptr_nil {op : BinOp} {t : TypeId} {xo yo : Operand} {a : Addr} {v : D} (h : (if isPtrT P t then (eqR op false).map D.val else none) = some v) :
    ∃ z, (do eqGuard op t xo yo (.pointer (some a)) (.pointer none); binOp op t (.pointer (some a)) (.pointer none) : Sem Value).run P w = .ok z w ∧ V G w z v := by
  split at h
  · rename_i ht
    cases hr : eqR op false with
    | none => rw [hr] at h; cases h
    | some u =>
      rw [hr] at h; cases h
      refine ⟨u, ?_, .val _⟩
      rw [guard_ptr]
      simp only [Sem.run_bind, Sem.run_pure, Result.andThen_ok]
      refine ptr_run ?_
      simp only [ptrD]
      rw [if_pos ht]; exact hr
  · cases h

theorem bin_run {op : BinOp} {t : TypeId} {xo yo : Operand} {x y : Value} {d i v : D} (hx : V G w x d) (hy : V G w y i) (h : binD P t op d i = some v) :
    ∃ z, (do eqGuard op t xo yo x y; binOp op t x y : Sem Value).run P w = .ok z w ∧ V G w z v := by
  unfold binD at h
  split at h
  · rename_i k a k' b
    have := V.of_val hx
    have := V.of_val hy
    subst_vars
    split at h
    · rename_i hk
      subst hk
      have hg : eqGuard op t xo yo (.int k a) (.int k b) = pure () := by
        unfold eqGuard
        split <;> rfl
      cases op <;> simp only [intD] at h
      all_goals first
        | (simp at h; done)
        | (simp only [Option.map_some, Option.some.injEq] at h
           subst h
           refine ⟨_, ?_, .val _⟩
           simp [hg, binOp, Op.intArith, Op.intCmp]
           done)
        | skip
      · split at h
        · simp at h
        · rename_i hb
          simp only [Option.map_some, Option.some.injEq] at h
          subst h
          exact ⟨_, by simp [hg, binOp, Op.intDiv, hb], .val _⟩
      · split at h
        · simp at h
        · rename_i hb
          simp only [Option.map_some, Option.some.injEq] at h
          subst h
          exact ⟨_, by simp [hg, binOp, Op.intDiv, hb], .val _⟩
      · simp only [Option.map_some, Option.some.injEq] at h
        subst h
        exact ⟨_, by simp [hg, binOp, Op.intCmp]; rfl, by rw [show (a == b) = decide (a = b) from by rw [Bool.eq_iff_iff]; simp]; exact .val _⟩
      · simp only [Option.map_some, Option.some.injEq] at h
        subst h
        exact ⟨_, by simp [hg, binOp, Op.intCmp]; rfl, by rw [show (a != b) = !decide (a = b) from by rw [Bool.eq_iff_iff]; simp]; exact .val _⟩
    · cases h
  · rename_i a b
    have := V.of_val hx
    have := V.of_val hy
    subst_vars
    have hg : eqGuard op t xo yo (.string a) (.string b) = pure () := by
      unfold eqGuard
      split <;> rfl
    cases op <;> simp only [strD] at h
    all_goals first
      | (simp at h; done)
      | (simp only [Option.map_some, Option.some.injEq] at h
         subst h
         refine ⟨_, ?_, .val _⟩
         simp [hg, binOp, Op.stringOp, bytes_eq_iff]
         done)
      | skip
    · split at h
      · rename_i hs
        simp only [Option.map_some, Option.some.injEq] at h
        subst h
        refine ⟨_, ?_, .val _⟩
        have : ¬ (((a.size + b.size : Nat) : Int) > IntKind.i64.max) := by simp [IntKind.max, IntKind.signed, IntKind.bits]; omega
        simp only [hg, binOp, Op.stringOp]
        rw [if_neg this]
        simp
      · simp at h
  · rename_i a b
    have := V.of_val hx
    have := V.of_val hy
    subst_vars
    have hg : eqGuard op t xo yo (.bool a) (.bool b) = pure () := by
      unfold eqGuard
      split <;> rfl
    cases hr : boolD P t op a b with
    | none => rw [hr] at h; cases h
    | some u =>
      rw [hr] at h; cases h
      exact ⟨u, by rw [hg]; simp only [Sem.run_bind, Sem.run_pure, Result.andThen_ok]; exact bool_run hr, .val _⟩
  · rename_i a b
    have := V.of_val hx
    have := V.of_val hy
    subst_vars
    cases hr : ptrD P t op a b with
    | none => rw [hr] at h; cases h
    | some u =>
      rw [hr] at h; cases h
      exact ⟨u, by rw [guard_ptr]; simp only [Sem.run_bind, Sem.run_pure, Result.andThen_ok]; exact ptr_run hr, .val _⟩
  · have := V.of_val hy
    subst this
    cases hx
    exact ptr_nil h
  · have := V.of_val hy
    subst this
    cases hx
    exact ptr_nil h
  · have := V.of_val hy
    subst this
    cases hx
    exact ptr_nil h
  · cases h

theorem un_run {op : UnOp} {x : Value} {d v : D} (hx : V G w x d) (h : unD op d = some v) : ∃ z, (Op.unary op x).run P w = .ok z w ∧ V G w z v := by
  unfold unD at h
  split at h
  · have := V.of_val hx
    subst this
    split at h
    · cases h; exact ⟨_, by simp [Op.unary], .val _⟩
    · cases h
  · have := V.of_val hx
    subst this
    split at h
    · cases h; exact ⟨_, by simp [Op.unary, Op.intArith], .val _⟩
    · cases h
  · cases h

theorem numsOf_spec : ∀ {rows : List D} {ns : List Int}, numsOf rows = some ns → rows = ns.map fun n => D.val (.int .u8 n)
  | [], ns, h => by simp only [numsOf, Option.some.injEq] at h; subst h; rfl
  | .val (.int .u8 n) :: r, ns, h => by
    simp only [numsOf] at h
    cases hr : numsOf r with
    | none => rw [hr] at h; cases h
    | some l => rw [hr] at h; cases h; rw [numsOf_spec hr]; rfl

theorem isBytesT_spec {t : TypeId} (h : isBytesT P t = true) : ∃ e, P.underlying t = some (.slice e) ∧ P.underlying e = some (.int .u8) := by
  unfold isBytesT at h
  split at h
  · rename_i e he
    split at h
    · exact ⟨e, he, by assumption⟩
    · cases h
  · cases h

theorem conv_bytes {s t : TypeId} {x : Value} {b : Bool} {rows : List D} {v : D} (hx : V G w x (.sl b rows)) (h : (if isBytesT P s = true ∧ isStr P t = true then (numsOf rows).map fun ns => D.val (.string (strOfNums ns)) else none) = some v) : ∃ z, (convert s t x).run P w = .ok z w ∧ V G w z v := by
  split at h
  · rename_i ht
    obtain ⟨e, he1, he2⟩ := isBytesT_spec ht.1
    cases hn : numsOf rows with
    | none => rw [hn] at h; cases h
    | some ns =>
      rw [hn] at h
      cases h
      have hrows := numsOf_spec hn
      refine ⟨_, ?_, .val _⟩
      cases hx with
      | nilsl =>
        have : ns = [] := by simpa using hrows.symm
        subst this
        rw [run_convert_bytes_nil w s e he1 he2 0 0 t (isStr_spec ht.2)]
        rfl
      | esl a =>
        have : ns = [] := by simpa using hrows.symm
        subst this
        have hl : (loadCells a 0).run P w = .ok #[] w := run_loadCells_list (P := P) w a [] (fun j v hj => by simp at hj)
        rw [run_convert_bytes_string w s t e _ 0 0 he1 he2 (isStr_spec ht.2)]
        simp [Conv.bytesToString, hl]
        rfl
      | sl X h1 h2 h3 h4 h5 h6 h7 =>
        subst hrows
        refine run_convert_bytes_arg w s e he1 he2 _ _ _ _ ns (by rw [h1]; simp) (fun i hi => ?_) t (isStr_spec ht.2)
        have hil : i < ns.length := by rw [h1] at hi; simpa using hi
        have hr : (ns.map fun n => D.val (.int .u8 n))[i]? = some (.val (.int .u8 ns[i])) := by simp [hil]
        have hk := h5 i _ hr
        have hk : 1 = _ := hk
        have c := h6 i _ 0 (.val (.int .u8 ns[i])) hr rfl
        have v := V.of_val (h7 i _ 0 (.val (.int .u8 ns[i])) hr rfl)
        rw [← hk, Nat.mul_one, Nat.add_zero, v] at c
        rw [c]
        simp [List.getD, hil]
  · cases h

theorem conv_run {s t : TypeId} {x : Value} {d v : D} (hx : V G w x d) (h : convD P s t d = some v) : ∃ z, (convert s t x).run P w = .ok z w ∧ V G w z v := by
  unfold convD at h
  split at h
  · exact conv_bytes hx h
  · have := V.of_val hx
    subst this
    split at h
    · rename_i k hs' hk
      cases h
      obtain ⟨u, hs⟩ := Option.isSome_iff_exists.1 hs'
      unfold intOfT at hk
      split at hk
      · rename_i k' hu
        cases hk
        refine ⟨_, ?_, .val _⟩
        simp [convert, run_underlying hs, run_underlying hu, Conv.intToInt]
      · cases hk
    · cases h
  · have := V.of_val hx
    subst this
    split at h
    · rename_i hs' hk
      cases h
      obtain ⟨u, hs⟩ := Option.isSome_iff_exists.1 hs'
      refine ⟨_, ?_, .val _⟩
      simp [convert, run_underlying hs, run_underlying (isStr_spec hk)]
    · cases h
  · cases h

theorem nil_run {o : Oper} {xo : Operand} {ρ : Operand → Value} (hop : o.op = .nilCheck xo) {d v : D} (hx : V G w (ρ xo) d) (h : nilD d = some v) : ∃ z, (execOp ρ o).run P w = .ok (.value z) w ∧ V G w z v := by
  refine ⟨ρ xo, ?_, ?_⟩
  · generalize hv : ρ xo = x at hx
    cases hx with
    | ptr => simp [execOp, hop, hv]
    | aptr => simp [execOp, hop, hv]
    | eptr => simp [execOp, hop, hv]
    | func h1 h2 h3 h4 =>
      rename_i fn _ _ _ _
      cases fn <;> simp [nilD] at h
      simp [execOp, hop, hv]
    | _ => simp [nilD] at h
  · cases d <;> simp [nilD] at h
    case func fn a b => cases fn <;> simp at h; subst h; exact hx
    all_goals (subst h; exact hx)

end
end Go.Ab
