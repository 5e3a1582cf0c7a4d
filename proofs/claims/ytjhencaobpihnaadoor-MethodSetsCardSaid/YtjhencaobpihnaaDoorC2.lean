/- A part of the proof, under no conditions of its own: C2. -/
import Derived.Test.YtjhencaobpihnaaDoorC1
import Derived.Test.YtjhencaobpihnaaDoorLS
import Derived.Lib.Small
import Derived.Lib.Walk
namespace Go.Proofs.T
open Go Go.Ab Go.RowKit

/-! ## The comparing function, in whatever world -/

def okSiV (vs : List Value) (s : Sig) : Prop := vs[0]? = some (.string s.name)
set_option maxHeartbeats 1000000 in
theorem isNaN_w (a : Str) (w : World) : Calls Tryd.prog 59 #[.string a] w fun e w' => e = .returned (.bool false) ∧ w' = w := by
  go_enter Tryd.func59, Tryd.ntmps59
  go_wp2
  go_ret
  exact ⟨by simp, rfl⟩
theorem gtr_run (t : TypeId) (a b : Str) (w : World) : (binOp .gtr t (.string a) (.string b)).run Tryd.prog w = .ok (.bool (!(Op.bytesLess a.toList b.toList || decide (a = b)))) w := by
  simp [binOp, Op.stringOp, bytes_eq_iff]
set_option maxHeartbeats 1000000 in
theorem cmp_w (a b : Str) (w : World) : Calls Tryd.prog 37 #[.string a, .string b] w fun e w' => e = .returned (.int .i64 (cmpS a b)) ∧ w' = w := by
  have hg := fun w => gtr_run 9 a b w
  go_enter Tryd.func37, Tryd.ntmps37
  go_wp2_with (go_at_call 59; refine (isNaN_w _ _).mono ?_; rintro e w' ⟨rfl, rfl⟩)
  · have h : Op.bytesLess a.toList b.toList = true := by assumption
    go_ret
    rw [cmpS_less] at h
    exact ⟨by rw [of_decide_eq_true h]; rfl, rfl⟩
  · have h : Op.bytesLess a.toList b.toList = false := by assumption
    have h2 : (!decide (a = b)) = true := by assumption
    go_ret
    rw [cmpS_less] at h
    have h3 : a ≠ b := by simpa using h2
    refine ⟨?_, rfl⟩
    rcases cmpL_range a.data.toList b.data.toList with h4 | h4 | h4
    · exact absurd h4 (of_decide_eq_false h)
    · exact absurd (cmpS_zero.1 h4) h3
    · rw [show cmpS a b = 1 from h4]; rfl
  · have h2 : (!decide (a = b)) = false := by assumption
    go_ret
    have h3 : a = b := by simpa using h2
    rw [cmpS_zero.2 h3]
    exact ⟨rfl, rfl⟩
set_option maxHeartbeats 1000000 in
theorem nameCmp_w (a b : Str) (w : World) : Calls Tryd.prog 20 #[.string a, .string b] w fun e w' => e = .returned (.int .i64 (cmpS a b)) ∧ w' = w := by
  go_enter Tryd.func20, Tryd.ntmps20
  go_wp2_with (go_at_call 37; refine (cmp_w _ _ _).mono ?_; rintro e w' ⟨rfl, rfl⟩)
  go_ret
  exact ⟨rfl, rfl⟩
set_option maxHeartbeats 1000000 in
theorem setFun_w (a b : Str) (x1 x2 x3 x4 x5 x6 y1 y2 y3 y4 y5 y6 : Value) (_ : ∀ v ∈ [x1, x2, x3, x4, x5, x6, y1, y2, y3, y4, y5, y6], v.oneCell' = true) (w : World) :
    Calls Tryd.prog 19 #[.agg #[.string a, x1, x2, x3, x4, x5, x6], .agg #[.string b, y1, y2, y3, y4, y5, y6]] w fun e w' => e = .returned (.int .i64 (cmpS a b)) ∧ ∃ q os', w' = Sort.grow (w.drewN q) os' := by
  go_enter Tryd.func19, Tryd.ntmps19
  go_wp2_with (go_at_call 20; refine (nameCmp_w _ _ _).mono ?_; rintro e w' ⟨rfl, rfl⟩)
  go_ret
  exact ⟨rfl, 0, _, by rw [Sort.alloc_eq_grow, Sort.alloc_eq_grow, Sort.grow_grow]; rfl⟩
theorem setFun_at : CmpAt Tryd.prog 19 Sig 7 okSiV cfSi := by
  rintro ⟨x, s, hx, hx1, hxs⟩ ⟨y, t, hy, hy1, hyt⟩ w
  match x, hx, hx1, hxs, y, hy, hy1, hyt with
  | [x0, x1, x2, x3, x4, x5, x6], _, hx1, hxs, [y0, y1, y2, y3, y4, y5, y6], _, hy1, hyt =>
    have e1 : x0 = .string s.name := by simpa [okSiV] using hxs
    have e2 : y0 = .string t.name := by simpa [okSiV] using hyt
    subst e1 e2
    exact setFun_w s.name t.name x1 x2 x3 x4 x5 x6 y1 y2 y3 y4 y5 y6 (fun v hv => by
      simp only [List.mem_cons, List.not_mem_nil, or_false] at hv hx1 hy1
      rcases hv with h | h | h | h | h | h | h | h | h | h | h | h <;> subst h <;> first | exact hx1 _ (by simp) | exact hy1 _ (by simp)) w

/-! ## Sorting signatures -/
theorem sortSi_calls (l : List Sig) (hl : l.length ≤ 1000000) (h1 : Names1 l) (n : Nm) (g d : Nat) :
    ACalls E 18 [.own n l.length, .func (.func 19) [] []] [(n, .arr 42 7 (l.map encSi))] g d (.tup []) [(n, .arr 42 7 ((srt ltSi l).map encSi))] :=
  acalls_sort (E := E) (k := 7) (ok := okSiV) (encB := encSi) Tryd.laySortSig (by kernel_rfl) (by kernel_rfl) Tryd.call18 ag42 sz42 (by decide) (fun _ => ⟨rfl, rfl⟩)
    (fun G w vs b h => by
      obtain ⟨h1, h2⟩ := h
      have hlt : 0 < vs.size := by rw [h1]; simp [encSi, siC, D.cells]
      have := h2 0 vs[0] (.val (.string b.name)) (Array.getElem?_eq_getElem hlt) rfl
      have e := V.of_val this
      simp only [okSiV]
      rw [Array.getElem?_toList, Array.getElem?_eq_getElem hlt, e])
    swoSi setFun_at Tryd.call19 (by omega) (fun l2 hp ho => sigs_uniq h1 hp ho) n g d
end Go.Proofs.T

