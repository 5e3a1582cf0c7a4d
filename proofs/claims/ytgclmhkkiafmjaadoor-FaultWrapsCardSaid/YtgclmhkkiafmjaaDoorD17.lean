/- A part of the proof, under no conditions of its own: D17. -/
import Derived.Test.YtgclmhkkiafmjaaDoorD16
import Derived.Lib.IfaceEq
namespace Go.Proofs.T
open Go Go.Ab Go.RowKit Go.Extern.Stop Go.Stop Go.Extern

/-! ## errors.Is -/

theorem rComp_x (args : Array Value) (w : World) : (callFunc 75 args).run Tryd.prog w = ((ReflectliteType.method (fun t => do Rtype.noPackHeld "Comparable" t; pure (.bool (← typeInfo t).comparable)) args).run Tryd.prog w).andThen fun v w' => .ok (.value v) w' := @run_callFunc_extern Tryd.prog 75 _ (ReflectliteType.method (fun t => do Rtype.noPackHeld "Comparable" t; pure (.bool (← typeInfo t).comparable))) Tryd.func75 (by kernel_rfl) (by kernel_rfl) (by kernel_rfl) (by kernel_rfl) args w
theorem comp30 (w : World) : (ReflectliteType.method (fun t => do Rtype.noPackHeld "Comparable" t; pure (.bool (← typeInfo t).comparable)) #[.agg #[hd 30]]).run Tryd.prog w = .ok (.bool true) w := by kernel_rfl
theorem mComp (h : Value) (w : World) : (method (Tryd.prog.types.size + Made.depth) 78 (.agg #[h]) "Comparable").run Tryd.prog w = .ok (75, .agg #[h]) w := by kernel_rfl
theorem recvComp (t : TypeId) : Recv Tryd.prog 78 "Comparable" (.agg [.val (hd t)]) 75 (.agg [.val (hd t)]) := fun _ w v hv => ⟨v, by rw [V.agg1 hv]; exact mComp _ w, hv⟩
theorem comp_calls (g d : Nat) : XCalls E 75 [.agg [.val (hd 30)]] [] g d (dB true) [] := by
  refine xcalls_pure fun w0 hA G w vs hw hvs => ?_
  obtain ⟨v, rfl, hv⟩ := vs_one hvs
  rw [V.agg1 hv]
  exact ⟨.bool true, by rw [E_P, rComp_x, comp30]; rfl, .val _⟩
theorem noIs30 (v : Value) (w : World) : (Instr.typeAssert (.iface 30 v) 28 80 true).run Tryd.prog w = .ok (.tuple #[.nilIface, .bool false]) w :=
  run_typeAssert_lacksB Tryd.underlying80 (by kernel_rfl) (by kernel_rfl) v 28 w
theorem noIs50 (v : Value) (w : World) : (Instr.typeAssert (.iface 50 v) 28 80 true).run Tryd.prog w = .ok (.tuple #[.nilIface, .bool false]) w :=
  run_typeAssert_lacksB Tryd.underlying80 (by kernel_rfl) (by kernel_rfl) v 28 w
theorem noIs59 (v : Value) (w : World) : (Instr.typeAssert (.iface 59 v) 28 80 true).run Tryd.prog w = .ok (.tuple #[.nilIface, .bool false]) w :=
  run_typeAssert_lacksB Tryd.underlying80 (by kernel_rfl) (by kernel_rfl) v 28 w
theorem eq59 (d d' : D) (G : Gh) (w : World) (v v' : Value) (_ : V G w v d) (_ : V G w v' d') : (binOp .eql 28 (.iface 59 v) (.iface 30 v')).run E.P w = .ok (.bool false) w :=
  run_eql_iface_types (P := Tryd.prog) _ _ _ _ Tryd.underlying28 (by decide) w
theorem eq50 (d d' : D) (G : Gh) (w : World) (v v' : Value) (_ : V G w v d) (_ : V G w v' d') : (binOp .eql 28 (.iface 50 v) (.iface 30 v')).run E.P w = .ok (.bool false) w :=
  run_eql_iface_types (P := Tryd.prog) _ _ _ _ Tryd.underlying28 (by decide) w
theorem eq30 (c k : Int) (G : Gh) (w : World) (v v' : Value) (h : V G w v (dI c)) (h' : V G w v' (dI k)) : (binOp .eql 28 (.iface 30 v) (.iface 30 v')).run E.P w = .ok (.bool (decide (c = k))) w := by
  rw [V.of_val h, V.of_val h']
  have := Lib.run_eql_iface_int (P := Tryd.prog) w (t := 28) (tx := 30) (k := .i64) c k Tryd.underlying28 (by kernel_rfl) Tryd.underlying30
  rw [E_P, this]
  rfl

set_option maxRecDepth 100000 in
theorem is_calls (f : Bool) (c a k : Int) : ∀ (l : List Str) (g d : Nat), ACalls E 27 [chain f c a l, .iface 30 (dI k), dB true] [] g d (dB (decide (c = k))) [] := by
  intro l g d
  refine acalls_of_awp (fn := Tryd.f27) (N := 54) Tryd.call27 Tryd.func27 rfl rfl (by simp) ?_
  simp only [go_sem]
  refine awp_seq_k (fun K1 hK1 => ?_)
  refine awp_plain 1 (by kernel_rfl) rfl (fun g0 hg0 => ?_)
  simp only [go_sem]
  refine hK1 _ ?_
  refine awp_block ?_
  refine awp_loop (fun m s => ∃ X, ((∃ l', X = chain f c a l' ∧ m = l'.length + 1) ∨ (X = .iface 30 (dI c) ∧ m = 0)) ∧ Le { env := [(0, X), (1, .iface 30 (dI k)), (2, dB true)], σ := [] } s) (l.length + 1) ?_ ?_
  · refine ⟨_, .inl ⟨l, rfl, rfl⟩, le_of ?_⟩
    simp only [go_sem]
    try trivial
  · rintro m s ⟨X, hX, hle⟩
    refine awp_keep hle ?_
    clear hle
    refine awp_block ?_
    refine awp_seq_k (fun K2 hK2 => ?_)
    refine awp_seq_k (fun K3 hK3 => ?_)
    rcases hX with ⟨l', rfl, rfl⟩ | ⟨rfl, rfl⟩
    · cases l' with
      | nil =>
        cases f with
        | false =>
          by_cases hck : c = k
          · refine awp_ops (by kernel_rfl) rfl (fun g1 hg1 ops1 KR1 hops1 hKR1 => ?_)
            refine aops_eval 4 hops1 ?_
            simp only [go_sem, chain, baseE, Bool.false_eq_true, if_false]
            refine aops_eqi hops1 rfl rfl rfl rfl rfl (eq30 c k) ?_
            refine aops_last 1 hops1 ?_
            simp only [go_sem, hck, decide_true, if_false]
            refine hKR1 _ ?_
            refine hK3 _ ?_
            refine awp_t rfl ?_
            refine awp_seq_k (fun K4 hK4 => ?_)
            refine awp_plain 1 (by kernel_rfl) rfl (fun g2 hg2 => ?_)
            simp only [go_sem]
            refine hK4 _ ?_
            refine awp_ret ?_
            refine ends_ev rfl ?_
            simp only [go_sem, if_false]
            exact Co.of_eq (by simp [hck])
          · refine awp_ops (by kernel_rfl) rfl (fun g1 hg1 ops1 KR1 hops1 hKR1 => ?_)
            refine aops_eval 4 hops1 ?_
            simp only [go_sem, chain, baseE, Bool.false_eq_true, if_false]
            refine aops_eqi hops1 rfl rfl rfl rfl rfl (eq30 c k) ?_
            refine aops_last 1 hops1 ?_
            simp only [go_sem, hck, decide_false, if_false]
            refine hKR1 _ ?_
            refine hK3 _ ?_
            refine awp_f rfl ?_
            refine awp_skip ?_
            refine hK2 _ ?_
            refine awp_seq_k (fun K5 hK5 => ?_)
            refine awp_seq_k (fun K6 hK6 => ?_)
            refine awp_ops (by kernel_rfl) rfl (fun g3 hg3 ops3 KR3 hops3 hKR3 => ?_)
            refine aops_eval 1 hops3 ?_
            simp only [go_sem, if_false]
            refine aops_lacks hops3 rfl rfl rfl rfl (noIs30) ?_
            refine aops_last 5 hops3 ?_
            simp only [go_sem, if_false]
            refine hKR3 _ ?_
            refine hK6 _ ?_
            refine awp_seq_k (fun K7 hK7 => ?_)
            refine awp_plain 6 (by kernel_rfl) rfl (fun g4 hg4 => ?_)
            simp only [go_sem, if_false]
            refine hK7 _ ?_
            refine awp_f rfl ?_
            refine awp_skip ?_
            refine hK5 _ ?_
            refine awp_seq_k (fun K8 hK8 => ?_)
            refine awp_plain 1 (by kernel_rfl) rfl (fun g6 hg6 => ?_)
            simp only [go_sem, if_false]
            refine hK8 _ ?_
            refine awp_block ?_
            refine awp_seq_k (fun K9 hK9 => ?_)
            refine awp_ops (by kernel_rfl) rfl (fun g9 hg9 ops9 KR9 hops9 hKR9 => ?_)
            refine aops_eval 0 hops9 ?_
            simp only [go_sem]
            refine aops_lacks hops9 rfl rfl rfl rfl (noUn30) ?_
            refine aops_last 2 hops9 ?_
            simp only [go_sem, if_false]
            refine hKR9 _ ?_
            refine hK9 _ ?_
            refine awp_f rfl ?_
            refine awp_seq_k (fun K10 hK10 => ?_)
            refine awp_ops (by kernel_rfl) rfl (fun g14 hg14 ops14 KR14 hops14 hKR14 => ?_)
            refine aops_eval 0 hops14 ?_
            simp only [go_sem]
            refine aops_lacks hops14 rfl rfl rfl rfl (noUs30) ?_
            refine aops_last 2 hops14 ?_
            simp only [go_sem, if_false]
            refine hKR14 _ ?_
            refine hK10 _ ?_
            refine awp_f rfl ?_
            refine awp_seq_k (fun K11 hK11 => ?_)
            refine awp_plain 1 (by kernel_rfl) rfl (fun g7 hg7 => ?_)
            simp only [go_sem, if_false]
            refine hK11 _ ?_
            refine awp_seq_k (fun K12 hK12 => ?_)
            refine awp_plain 1 (by kernel_rfl) rfl (fun g8 hg8 => ?_)
            simp only [go_sem]
            refine hK12 _ ?_
            refine awp_ret ?_
            refine ends_ev rfl ?_
            simp only [go_sem, if_false]
            exact Co.of_eq (by simp [hck])
        | true =>
          refine awp_ops (by kernel_rfl) rfl (fun g1 hg1 ops1 KR1 hops1 hKR1 => ?_)
          refine aops_eval 4 hops1 ?_
          simp only [go_sem, chain, baseE, if_true]
          refine aops_eqi hops1 rfl rfl rfl rfl rfl (eq50 _ _) ?_
          refine aops_last 1 hops1 ?_
          simp only [go_sem, if_true]
          refine hKR1 _ ?_
          refine hK3 _ ?_
          refine awp_f rfl ?_
          refine awp_skip ?_
          refine hK2 _ ?_
          refine awp_seq_k (fun K13 hK13 => ?_)
          refine awp_seq_k (fun K14 hK14 => ?_)
          refine awp_ops (by kernel_rfl) rfl (fun g3 hg3 ops3 KR3 hops3 hKR3 => ?_)
          refine aops_eval 1 hops3 ?_
          simp only [go_sem, if_true]
          refine aops_lacks hops3 rfl rfl rfl rfl (noIs50) ?_
          refine aops_last 5 hops3 ?_
          simp only [go_sem, if_true]
          refine hKR3 _ ?_
          refine hK14 _ ?_
          refine awp_seq_k (fun K15 hK15 => ?_)
          refine awp_plain 6 (by kernel_rfl) rfl (fun g4 hg4 => ?_)
          simp only [go_sem, if_true]
          refine hK15 _ ?_
          refine awp_f rfl ?_
          refine awp_skip ?_
          refine hK13 _ ?_
          refine awp_seq_k (fun K16 hK16 => ?_)
          refine awp_plain 1 (by kernel_rfl) rfl (fun g6 hg6 => ?_)
          simp only [go_sem, if_true]
          refine hK16 _ ?_
          refine awp_block ?_
          refine awp_seq_k (fun K17 hK17 => ?_)
          refine awp_ops (by kernel_rfl) rfl (fun g9 hg9 ops9 KR9 hops9 hKR9 => ?_)
          refine aops_eval 0 hops9 ?_
          simp only [go_sem]
          refine aops_has hops9 rfl rfl rfl rfl (hasUn50) ?_
          refine aops_last 2 hops9 ?_
          simp only [go_sem, if_true]
          refine hKR9 _ ?_
          refine hK17 _ ?_
          refine awp_t rfl ?_
          refine awp_seq_k (fun K18 hK18 => ?_)
          refine awp_plain 1 (by kernel_rfl) rfl (fun g10 hg10 => ?_)
          simp only [go_sem, if_true]
          refine hK18 _ ?_
          refine awp_seq_k (fun K19 hK19 => ?_)
          refine awp_ops (by kernel_rfl) rfl (fun g11 hg11 ops11 KR11 hops11 hKR11 => ?_)
          refine aops_eval 1 hops11 ?_
          simp only [go_sem, if_true]
          refine aops_inv0 hops11 rfl rfl (leads_method rfl rfl rfl (Recv.same u50 _)) (unwrapF_calls c a _ _) (CoL.refl _) ?_
          refine aops_last 1 hops11 ?_
          simp only [go_sem, if_true]
          refine hKR11 _ ?_
          refine hK19 _ ?_
          refine awp_seq_k (fun K20 hK20 => ?_)
          refine awp_plain 2 (by kernel_rfl) rfl (fun g12 hg12 => ?_)
          simp only [go_sem, if_true]
          refine hK20 _ ?_
          refine awp_f rfl ?_
          refine awp_skip ?_
          refine ⟨_, ?_, _, .inr ⟨rfl, rfl⟩, le_of ?_⟩
          · simp
          simp only [go_sem, if_true]
          try trivial
      | cons p' r =>
        obtain ⟨t, y, hy⟩ := chain_iface f c a r
        refine awp_ops (by kernel_rfl) rfl (fun g1 hg1 ops1 KR1 hops1 hKR1 => ?_)
        refine aops_eval 4 hops1 ?_
        simp only [go_sem, chain, hy]
        refine aops_eqi hops1 rfl rfl rfl rfl rfl (eq59 _ _) ?_
        refine aops_last 1 hops1 ?_
        simp only [go_sem]
        refine hKR1 _ ?_
        refine hK3 _ ?_
        refine awp_f rfl ?_
        refine awp_skip ?_
        refine hK2 _ ?_
        refine awp_seq_k (fun K21 hK21 => ?_)
        refine awp_seq_k (fun K22 hK22 => ?_)
        refine awp_ops (by kernel_rfl) rfl (fun g3 hg3 ops3 KR3 hops3 hKR3 => ?_)
        refine aops_eval 1 hops3 ?_
        simp only [go_sem]
        refine aops_lacks hops3 rfl rfl rfl rfl (noIs59) ?_
        refine aops_last 5 hops3 ?_
        simp only [go_sem]
        refine hKR3 _ ?_
        refine hK22 _ ?_
        refine awp_seq_k (fun K23 hK23 => ?_)
        refine awp_plain 6 (by kernel_rfl) rfl (fun g4 hg4 => ?_)
        simp only [go_sem]
        refine hK23 _ ?_
        refine awp_f rfl ?_
        refine awp_skip ?_
        refine hK21 _ ?_
        refine awp_seq_k (fun K24 hK24 => ?_)
        refine awp_plain 1 (by kernel_rfl) rfl (fun g6 hg6 => ?_)
        simp only [go_sem]
        refine hK24 _ ?_
        refine awp_block ?_
        refine awp_seq_k (fun K25 hK25 => ?_)
        refine awp_ops (by kernel_rfl) rfl (fun g9 hg9 ops9 KR9 hops9 hKR9 => ?_)
        refine aops_eval 0 hops9 ?_
        simp only [go_sem]
        refine aops_has hops9 rfl rfl rfl rfl (hasUn59) ?_
        refine aops_last 2 hops9 ?_
        simp only [go_sem]
        refine hKR9 _ ?_
        refine hK25 _ ?_
        refine awp_t rfl ?_
        refine awp_seq_k (fun K26 hK26 => ?_)
        refine awp_plain 1 (by kernel_rfl) rfl (fun g10 hg10 => ?_)
        simp only [go_sem]
        refine hK26 _ ?_
        refine awp_seq_k (fun K27 hK27 => ?_)
        refine awp_ops (by kernel_rfl) rfl (fun g11 hg11 ops11 KR11 hops11 hKR11 => ?_)
        refine aops_eval 1 hops11 ?_
        simp only [go_sem]
        refine aops_inv0 hops11 rfl rfl (leads_method rfl rfl rfl (Recv.same u59 _)) (unwrapI_calls p' (.iface t y) rfl _ _) (CoL.refl _) ?_
        refine aops_last 1 hops11 ?_
        simp only [go_sem]
        refine hKR11 _ ?_
        refine hK27 _ ?_
        refine awp_seq_k (fun K28 hK28 => ?_)
        refine awp_plain 2 (by kernel_rfl) rfl (fun g12 hg12 => ?_)
        simp only [go_sem]
        refine hK28 _ ?_
        refine awp_f rfl ?_
        refine awp_skip ?_
        refine ⟨_, ?_, _, .inl ⟨r, rfl, rfl⟩, le_of ?_⟩
        · simp
        simp only [go_sem, hy]
        try trivial
    · by_cases hck : c = k
      · refine awp_ops (by kernel_rfl) rfl (fun g1 hg1 ops1 KR1 hops1 hKR1 => ?_)
        refine aops_eval 4 hops1 ?_
        simp only [go_sem]
        refine aops_eqi hops1 rfl rfl rfl rfl rfl (eq30 c k) ?_
        refine aops_last 1 hops1 ?_
        simp only [go_sem, hck, decide_true]
        refine hKR1 _ ?_
        refine hK3 _ ?_
        refine awp_t rfl ?_
        refine awp_seq_k (fun K29 hK29 => ?_)
        refine awp_plain 1 (by kernel_rfl) rfl (fun g2 hg2 => ?_)
        simp only [go_sem]
        refine hK29 _ ?_
        refine awp_ret ?_
        refine ends_ev rfl ?_
        simp only [go_sem]
        exact Co.of_eq (by simp [hck])
      · refine awp_ops (by kernel_rfl) rfl (fun g1 hg1 ops1 KR1 hops1 hKR1 => ?_)
        refine aops_eval 4 hops1 ?_
        simp only [go_sem]
        refine aops_eqi hops1 rfl rfl rfl rfl rfl (eq30 c k) ?_
        refine aops_last 1 hops1 ?_
        simp only [go_sem, hck, decide_false]
        refine hKR1 _ ?_
        refine hK3 _ ?_
        refine awp_f rfl ?_
        refine awp_skip ?_
        refine hK2 _ ?_
        refine awp_seq_k (fun K30 hK30 => ?_)
        refine awp_seq_k (fun K31 hK31 => ?_)
        refine awp_ops (by kernel_rfl) rfl (fun g3 hg3 ops3 KR3 hops3 hKR3 => ?_)
        refine aops_eval 1 hops3 ?_
        simp only [go_sem]
        refine aops_lacks hops3 rfl rfl rfl rfl (noIs30) ?_
        refine aops_last 5 hops3 ?_
        simp only [go_sem]
        refine hKR3 _ ?_
        refine hK31 _ ?_
        refine awp_seq_k (fun K32 hK32 => ?_)
        refine awp_plain 6 (by kernel_rfl) rfl (fun g4 hg4 => ?_)
        simp only [go_sem]
        refine hK32 _ ?_
        refine awp_f rfl ?_
        refine awp_skip ?_
        refine hK30 _ ?_
        refine awp_seq_k (fun K33 hK33 => ?_)
        refine awp_plain 1 (by kernel_rfl) rfl (fun g6 hg6 => ?_)
        simp only [go_sem]
        refine hK33 _ ?_
        refine awp_block ?_
        refine awp_seq_k (fun K34 hK34 => ?_)
        refine awp_ops (by kernel_rfl) rfl (fun g9 hg9 ops9 KR9 hops9 hKR9 => ?_)
        refine aops_eval 0 hops9 ?_
        simp only [go_sem]
        refine aops_lacks hops9 rfl rfl rfl rfl (noUn30) ?_
        refine aops_last 2 hops9 ?_
        simp only [go_sem]
        refine hKR9 _ ?_
        refine hK34 _ ?_
        refine awp_f rfl ?_
        refine awp_seq_k (fun K35 hK35 => ?_)
        refine awp_ops (by kernel_rfl) rfl (fun g14 hg14 ops14 KR14 hops14 hKR14 => ?_)
        refine aops_eval 0 hops14 ?_
        simp only [go_sem]
        refine aops_lacks hops14 rfl rfl rfl rfl (noUs30) ?_
        refine aops_last 2 hops14 ?_
        simp only [go_sem]
        refine hKR14 _ ?_
        refine hK35 _ ?_
        refine awp_f rfl ?_
        refine awp_seq_k (fun K36 hK36 => ?_)
        refine awp_plain 1 (by kernel_rfl) rfl (fun g7 hg7 => ?_)
        simp only [go_sem]
        refine hK36 _ ?_
        refine awp_seq_k (fun K37 hK37 => ?_)
        refine awp_plain 1 (by kernel_rfl) rfl (fun g8 hg8 => ?_)
        simp only [go_sem]
        refine hK37 _ ?_
        refine awp_ret ?_
        refine ends_ev rfl ?_
        simp only [go_sem]
        exact Co.of_eq (by simp [hck])
theorem Is_calls (f : Bool) (c a k : Int) (l : List Str) (g d : Nat) : ACalls E 21 [chain f c a l, .iface 30 (dI k)] [] g d (dB (decide (c = k))) [] := by
  obtain ⟨t, y, hy⟩ := chain_iface f c a l
  rw [hy]
  refine acalls_of_awp (fn := Tryd.f21) (N := 22) Tryd.call21 Tryd.func21 rfl rfl (by simp) ?_
  simp only [go_sem]
  refine awp_seq_k (fun K1 hK1 => ?_)
  refine awp_plain 1 (by kernel_rfl) rfl (fun g0 hg0 => ?_)
  simp only [go_sem]
  refine hK1 _ ?_
  refine awp_seq_k (fun K2 hK2 => ?_)
  refine awp_seq_k (fun K3 hK3 => ?_)
  refine awp_plain 6 (by kernel_rfl) rfl (fun g1 hg1 => ?_)
  simp only [go_sem]
  refine hK3 _ ?_
  refine awp_f rfl ?_
  refine awp_skip ?_
  refine hK2 _ ?_
  refine awp_seq_k (fun K4 hK4 => ?_)
  refine awp_ops (by kernel_rfl) rfl (fun g3 hg3 ops3 KR3 hops3 hKR3 => ?_)
  refine aops_eval 1 hops3 ?_
  simp only [go_sem]
  refine aops_entry0 hops3 rfl rfl (leads_fn rfl rfl rfl) (typeOf_calls typeOf30 _ _ _) (CoL.refl _) ?_
  refine aops_entry0 hops3 rfl rfl (leads_method rfl rfl rfl (recvComp _)) (comp_calls _ _) (CoL.refl _) ?_
  refine aops_last 1 hops3 ?_
  simp only [go_sem]
  refine hKR3 _ ?_
  refine hK4 _ ?_
  refine awp_seq_k (fun K5 hK5 => ?_)
  refine awp_ops (by kernel_rfl) rfl (fun g4 hg4 ops4 KR4 hops4 hKR4 => ?_)
  refine aops_eval 3 hops4 ?_
  simp only [go_sem]
  refine aops_pure hops4 rfl rfl rfl ((hy ▸ is_calls f c a k l _ _)) (CoL.refl _) ?_
  refine aops_last 1 hops4 ?_
  simp only [go_sem]
  refine hKR4 _ ?_
  refine hK5 _ ?_
  refine awp_ret ?_
  refine ends_ev rfl ?_
  simp only [go_sem]
  exact Co.refl _
end Go.Proofs.T

