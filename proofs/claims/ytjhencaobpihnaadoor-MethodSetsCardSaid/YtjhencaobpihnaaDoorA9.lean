/- A part of the proof, under no conditions of its own: A9. -/
import Derived.Test.YtjhencaobpihnaaDoorA8
namespace Go.Proofs.T
open Go Go.Ab Go.RowKit

/-! ## Canonical signatures -/

def locTy (i : Nat) : Ty := ⟨localS i, [], 0⟩
def locTys (n : Nat) : List Ty := (List.range n).map locTy
def toLoc (i : Nat) (f : Formal) : Formal := ⟨localS i, f.bound, f.pos⟩
def noName (p : Param) : Param := ⟨⟨#[]⟩, p.type, p.pos⟩
def ownF (s : Sig) : Ty → Ty := substTy (s.formals.map (·.name)) (locTys s.formals.length)
def canonSi (s : Sig) : Sig := ⟨s.name, (s.formals.map (mapFm (ownF s))).mapIdx toLoc, (s.params.map (mapPa (ownF s))).map noName, ownF s s.result, s.pos⟩

theorem smLoc {n : Nat} (hn : n ≤ 1000000) : ∀ t ∈ locTys n, smTy t := by
  intro t ht
  simp only [locTys, List.mem_map, List.mem_range] at ht
  obtain ⟨i, hi, rfl⟩ := ht
  have := decS_size i (by omega)
  refine (smTy_iff _).2 ⟨?_, by simp [locTy], by simp [locTy]⟩
  show (localS i).size ≤ _
  have h : (localS i).size = 1 + (decS i).size := by simp [localS, ByteArray.size_append]; rfl
  omega

def rawLoc (i : Nat) : D := .agg [.val (.string (localS i)), .val (.slice none 0 0), dI 0]
theorem coLoc (n : Nat) : Co (.sl false ((List.range n).map rawLoc)) (slTy (locTys n)) := by
  unfold slTy locTys
  rw [List.map_map]
  refine Co.map _ (fun h => h) fun i _ => ?_
  simp only [Function.comp, encTy_cells, locTy, Ty.name_mk, Ty.args_mk, Ty.pos_mk, rawLoc, List.map_nil]
  exact .cons (.refl _) (.cons (.nil _) (.cons (.refl _) .nil))

theorem takeR {f : Nat → D} (k : Nat) : (List.range (k + 1)).map f = (List.range k).map f ++ [f k] := by rw [List.range_succ, List.map_append]; rfl

/-- Formals renamed up to here. -/
def upTo (k i : Nat) (f : Formal) : D := encFm (if i < k then toLoc i f else f)

def upP (k i : Nat) (f : Param) : D := encPa (if i < k then noName f else f)
theorem mapIdx_const {α β : Type} (f : Nat → α → β) (h : α → β) (l : List α) (hf : ∀ i a, l[i]? = some a → f i a = h a) : l.mapIdx f = l.map h := by
  apply List.ext_getElem?
  intro i
  simp only [List.getElem?_mapIdx, List.getElem?_map]
  cases hl : l[i]? with
  | none => rfl
  | some a => simp [hf i a hl]
theorem upTo_zero (l : List Formal) : l.mapIdx (upTo 0) = l.map encFm := mapIdx_const _ _ _ fun i a _ => by simp [upTo]
theorem upP_zero (l : List Param) : l.mapIdx (upP 0) = l.map encPa := mapIdx_const _ _ _ fun i a _ => by simp [upP]
theorem upTo_all (l : List Formal) : l.mapIdx (upTo l.length) = (l.mapIdx toLoc).map encFm := by
  apply List.ext_getElem?
  intro i
  simp only [List.getElem?_mapIdx, List.getElem?_map]
  cases hl : l[i]? with
  | none => rfl
  | some a => simp [upTo, (List.getElem?_eq_some_iff.1 hl).1]
theorem upP_all (l : List Param) : l.mapIdx (upP l.length) = (l.map noName).map encPa := by
  rw [List.map_map]
  exact mapIdx_const _ _ _ fun i a hl => by simp [upP, (List.getElem?_eq_some_iff.1 hl).1]
theorem upTo_get (l : List Formal) (k : Nat) (h : k < l.length) : (l.mapIdx (upTo k))[k]? = some (encFm l[k]) := by rw [getMI _ _ _ h]; simp [upTo]
theorem upP_get (l : List Param) (k : Nat) (h : k < l.length) : (l.mapIdx (upP k))[k]? = some (encPa l[k]) := by rw [getMI _ _ _ h]; simp [upP]
theorem upTo_set (l : List Formal) (k : Nat) (h : k < l.length) : (l.mapIdx (upTo k)).set k (encFm (toLoc k l[k])) = l.mapIdx (upTo (k + 1)) :=
  set_mapIdx upTo l k _ (fun a ha => by rw [List.getElem?_eq_getElem h] at ha; cases ha; simp [upTo]) (fun i a hi => by
    unfold upTo
    by_cases h : i < k
    · rw [if_pos h, if_pos (by omega)]
    · rw [if_neg h, if_neg (by omega)])
theorem upP_set (l : List Param) (k : Nat) (h : k < l.length) : (l.mapIdx (upP k)).set k (encPa (noName l[k])) = l.mapIdx (upP (k + 1)) :=
  set_mapIdx upP l k _ (fun a ha => by rw [List.getElem?_eq_getElem h] at ha; cases ha; simp [upP]) (fun i a hi => by
    unfold upP
    by_cases h : i < k
    · rw [if_pos h, if_pos (by omega)]
    · rw [if_neg h, if_neg (by omega)])
theorem locTys_get (n k : Nat) (h : k < n) : ((locTys n).map encTy)[k]? = some (encTy (locTy k)) := by
  unfold locTys
  rw [List.map_map, List.getElem?_map, List.getElem?_range h]
  rfl

theorem canon_calls (s : Sig) (hs : smSi s) (g d : Nat) : ACalls E 33 [encSi s] [] g d (ownSi g d (canonSi s)) (newSi g d (canonSi s)) := by
  have hs0 := hs
  obtain ⟨h1, ⟨h2, h3⟩, ⟨h4, h5⟩, h6⟩ := hs
  generalize hr : ownSi g d (canonSi s) = R
  generalize hw : newSi g d (canonSi s) = W
  refine acalls_of_awp (fn := Tryd.f33) (N := 54) Tryd.call33 Tryd.func33 rfl rfl (by simp) ?_
  simp only [go_sem]
  refine awp_seq_k (fun K1 hK1 => ?_)
  refine awp_plain 2 (by kernel_rfl) rfl (fun g0 hg0 => ?_)
  simp only [go_sem]
  refine hK1 _ ?_
  refine awp_seq_k (fun K2 hK2 => ?_)
  refine awp_plain 1 (by kernel_rfl) rfl (fun g1 hg1 => ?_)
  simp only [go_sem]
  refine hK2 _ ?_
  refine awp_seq_k (fun K3 hK3 => ?_)
  refine awp_seq_k (fun K4 hK4 => ?_)
  refine awp_plain 4 (by kernel_rfl) rfl (fun g2 hg2 => ?_)
  simp only [go_sem]
  refine hK4 _ ?_
  refine awp_block ?_
  refine awp_nil 3 25 3 rfl fun gn hgn => ?_
  have hn0 : gn ≠ g0 := fresh_g hgn 1 0 (by simp [go_sem])
  refine awp_loop (fun m st => ∃ k a i, k ≤ s.formals.length ∧ m = s.formals.length - k ∧ a ≠ g0 ∧
      Le { env := [(1, .ptr ⟨g0, 1, 0⟩ 0), (2, .ptr ⟨g0, 2, 0⟩ 0), (3, .own ⟨a, i, 0⟩ k), (10, dN s.formals.length), (11, dN k)],
           σ := [(⟨g0, 1, 0⟩, .box 42 (siC s)), (⟨g0, 2, 0⟩, .box 42 zSi), (⟨a, i, 0⟩, .arr 25 3 ((List.range k).map rawLoc))] } st) s.formals.length ?_ ?_
  · refine ⟨0, gn, 0, Nat.zero_le _, rfl, hn0, le_of ?_⟩
    simp only [go_sem, zSi, hn0, Ne.symm hn0]
    trivial
  · rintro m st ⟨k, a, i, hk, rfl, ha0, hle⟩
    refine awp_keep hle ?_
    clear hle
    by_cases hlt : k < s.formals.length
    · refine awp_seq_k (fun K5 hK5 => ?_)
      refine awp_plain 1 (by kernel_rfl) rfl (fun g3 hg3 => ?_)
      simp only [go_sem, zSi, hlt]
      refine hK5 _ ?_
      refine awp_seq_k (fun K6 hK6 => ?_)
      refine awp_t rfl ?_
      refine awp_skip ?_
      refine hK6 _ ?_
      refine awp_seq_k (fun K7 hK7 => ?_)
      refine awp_block ?_
      refine awp_seq_k (fun K8 hK8 => ?_)
      refine awp_plain 2 (by kernel_rfl) rfl (fun g4 hg4 => ?_)
      simp only [go_sem]
      refine hK8 _ ?_
      refine awp_ops (by kernel_rfl) rfl (fun g5 hg5 ops5 KR5 hops5 hKR5 => ?_)
      refine aops_eval 2 hops5 ?_
      simp only [go_sem]
      refine aops_pure hops5 rfl rfl rfl (local_calls k (by omega) _ _) (CoL.refl _) ?_
      refine aops_eval 2 hops5 ?_
      simp only [go_sem]
      refine aops_app hops5 rfl rfl rfl rfl rfl es23 sz25 by25 ze25 rfl (by decide) ?_
      simp only [go_sem, Ne.symm ha0, List.length_range]
      first | refine ⟨⟨by omega, by omega⟩, ?_⟩ | skip
      refine aops_last 1 hops5 ?_
      simp only [go_sem]
      refine hKR5 _ ?_
      refine hK7 _ ?_
      have hn5_g0 : g5 ≠ g0 := fresh_g hg5 1 0 (by simp [go_sem])
      refine awp_plain 2 (by kernel_rfl) rfl (fun g6 hg6 => ?_)
      simp only [go_sem, zSi]
      try simp (disch := omega) only [wrapN]
      refine ⟨_, ?_, k + 1, g5, 19, hlt, rfl, hn5_g0, le_of ?_⟩
      · omega
      simp only [go_sem, rawLoc, hn5_g0, Ne.symm hn5_g0]
      omega
    · refine awp_seq_k (fun K9 hK9 => ?_)
      refine awp_plain 1 (by kernel_rfl) rfl (fun g3 hg3 => ?_)
      simp only [go_sem, hlt, zSi]
      refine hK9 _ ?_
      refine awp_seq_k (fun K10 hK10 => ?_)
      refine awp_f rfl ?_
      refine awp_exit ?_
      refine hK3 _ ?_
      refine awp_seq_k (fun K11 hK11 => ?_)
      have : k = s.formals.length := by omega
      subst this
      refine awp_frz ⟨a, i, 0⟩ ?_
      simp only [go_sem, Ne.symm ha0]
      refine awp_co 3 (slTy (locTys s.formals.length)) ?_
      simp only [go_sem]
      refine ⟨coLoc _, ?_⟩
      refine awp_any 7 (by kernel_rfl) (by kernel_rfl) rfl (fun g7 hg7 ops7 KR7 hops7 hKR7 => ?_)
      refine qrun_eval 3 hops7 ?_
      simp only [go_sem]
      refine qrun_pure hops7 rfl rfl rfl (names_calls _ h2 _ _) (CoL.refl _) rfl ?_
      refine qrun_eval 1 hops7 ?_
      simp only [go_sem]
      refine qrun_pure hops7 rfl rfl rfl (substSig_calls _ _ (by simpa using h2) (smLoc h2) s hs0 _ _) (CoL.refl _) (by simp [nwOk, newSi]) ?_
      refine qrun_last 1 hops7 ?_
      simp only [go_sem, ownSi, newSi, mapSi]
      refine aops_last 1 hops7 ?_
      simp only [go_sem]
      refine hKR7 _ ?_
      refine hK11 _ ?_
      refine awp_seq_k (fun K12 hK12 => ?_)
      refine awp_seq_k (fun K13 hK13 => ?_)
      refine awp_plain 4 (by kernel_rfl) rfl (fun g8 hg8 => ?_)
      simp only [go_sem]
      refine hK13 _ ?_
      refine awp_block ?_
      generalize hL : s.formals.map (mapFm (ownF s)) = L
      generalize hM : s.params.map (mapPa (ownF s)) = M
      have hLl : L.length = s.formals.length := by rw [← hL]; simp
      have hMl : M.length = s.params.length := by rw [← hM]; simp
      refine awp_loop (fun m st => ∃ k, k ≤ L.length ∧ m = L.length - k ∧
          Le { env := [(2, .ptr ⟨g0, 2, 0⟩ 0), (5, .ptr ⟨g7, 5, 0⟩ 0), (29, dN L.length), (30, dN k)],
               σ := [(⟨g0, 2, 0⟩, .box 42 zSi),
                 (⟨g7, 5, 0⟩, .box 42 [.val (.string s.name), .own ⟨g7, 26, 1⟩ L.length, .own ⟨g7, 26, 2⟩ M.length, .val (.string (ownF s s.result).name), .sl false ((ownF s s.result).args.map encTy), .val (.int .i64 (ownF s s.result).pos), .val (.int .i64 s.pos)]),
                 (⟨g7, 26, 1⟩, .arr 50 5 (L.mapIdx (upTo k))), (⟨g7, 26, 2⟩, .arr 94 5 (M.map encPa))] } st) L.length ?_ ?_
      · refine ⟨0, Nat.zero_le _, rfl, le_of ?_⟩
        subst hL hM
        simp only [go_sem, ownF, upTo_zero, zSi]
        trivial
      · rintro m st ⟨k, hk, rfl, hle⟩
        refine awp_keep hle ?_
        clear hle
        by_cases hlt : k < L.length
        · refine awp_seq_k (fun K14 hK14 => ?_)
          refine awp_plain 1 (by kernel_rfl) rfl (fun g9 hg9 => ?_)
          simp only [go_sem, zSi, hlt]
          refine hK14 _ ?_
          refine awp_seq_k (fun K15 hK15 => ?_)
          refine awp_t rfl ?_
          refine awp_skip ?_
          refine hK15 _ ?_
          refine awp_seq_k (fun K16 hK16 => ?_)
          refine awp_block ?_
          refine awp_seq_k (fun K17 hK17 => ?_)
          refine awp_plain 2 (by kernel_rfl) rfl (fun g10 hg10 => ?_)
          simp only [go_sem]
          refine hK17 _ ?_
          refine awp_any 7 (by kernel_rfl) (by kernel_rfl) rfl (fun g11 hg11 ops11 KR11 hops11 hKR11 => ?_)
          refine qrun_eval 4 hops11 ?_
          simp only [go_sem]
          refine qrun_pure hops11 rfl rfl rfl (local_calls k (by omega) _ _) (CoL.refl _) rfl ?_
          refine qrun_last 2 hops11 ?_
          simp only [go_sem, hlt]
          refine aops_last 1 hops11 ?_
          simp only [go_sem, upTo_get _ _ hlt]
          refine hKR11 _ ?_
          refine hK16 _ ?_
          refine awp_plain 2 (by kernel_rfl) rfl (fun g12 hg12 => ?_)
          simp only [go_sem, zSi]
          try simp (disch := omega) only [wrapN]
          refine ⟨_, ?_, k + 1, hlt, rfl, le_of ?_⟩
          · omega
          simp only [go_sem, ← upTo_set _ _ hlt, toLoc]
          omega
        · refine awp_seq_k (fun K18 hK18 => ?_)
          refine awp_plain 1 (by kernel_rfl) rfl (fun g9 hg9 => ?_)
          simp only [go_sem, hlt, zSi]
          refine hK18 _ ?_
          refine awp_seq_k (fun K19 hK19 => ?_)
          refine awp_f rfl ?_
          refine awp_exit ?_
          refine hK12 _ ?_
          refine awp_seq_k (fun K20 hK20 => ?_)
          refine awp_seq_k (fun K21 hK21 => ?_)
          have : k = L.length := by omega
          subst this
          refine awp_plain 4 (by kernel_rfl) rfl (fun g13 hg13 => ?_)
          simp only [go_sem]
          refine hK21 _ ?_
          refine awp_block ?_
          refine awp_loop (fun m st => ∃ k, k ≤ M.length ∧ m = M.length - k ∧
              Le { env := [(2, .ptr ⟨g0, 2, 0⟩ 0), (5, .ptr ⟨g7, 5, 0⟩ 0), (43, dN M.length), (44, dN k)],
                   σ := [(⟨g0, 2, 0⟩, .box 42 zSi),
                     (⟨g7, 5, 0⟩, .box 42 [.val (.string s.name), .own ⟨g7, 26, 1⟩ L.length, .own ⟨g7, 26, 2⟩ M.length, .val (.string (ownF s s.result).name), .sl false ((ownF s s.result).args.map encTy), .val (.int .i64 (ownF s s.result).pos), .val (.int .i64 s.pos)]),
                     (⟨g7, 26, 1⟩, .arr 50 5 (L.mapIdx (upTo L.length))), (⟨g7, 26, 2⟩, .arr 94 5 (M.mapIdx (upP k)))] } st) M.length ?_ ?_
          · refine ⟨0, Nat.zero_le _, rfl, le_of ?_⟩
            simp only [go_sem, upP_zero, zSi]
            trivial
          · rintro m st ⟨k, hk, rfl, hle⟩
            refine awp_keep hle ?_
            clear hle
            by_cases hlt : k < M.length
            · refine awp_seq_k (fun K22 hK22 => ?_)
              refine awp_plain 1 (by kernel_rfl) rfl (fun g14 hg14 => ?_)
              simp only [go_sem, zSi, hlt]
              refine hK22 _ ?_
              refine awp_seq_k (fun K23 hK23 => ?_)
              refine awp_t rfl ?_
              refine awp_skip ?_
              refine hK23 _ ?_
              refine awp_seq_k (fun K24 hK24 => ?_)
              refine awp_block ?_
              refine awp_seq_k (fun K25 hK25 => ?_)
              refine awp_plain 2 (by kernel_rfl) rfl (fun g15 hg15 => ?_)
              simp only [go_sem]
              refine hK25 _ ?_
              refine awp_plain 6 (by kernel_rfl) rfl (fun g16 hg16 => ?_)
              simp only [go_sem, upP_get _ _ hlt, hlt]
              refine hK24 _ ?_
              refine awp_plain 2 (by kernel_rfl) rfl (fun g17 hg17 => ?_)
              simp only [go_sem, zSi]
              try simp (disch := omega) only [wrapN]
              refine ⟨_, ?_, k + 1, hlt, rfl, le_of ?_⟩
              · omega
              simp only [go_sem, ← upP_set _ _ hlt, noName]
              omega
            · refine awp_seq_k (fun K26 hK26 => ?_)
              refine awp_plain 1 (by kernel_rfl) rfl (fun g14 hg14 => ?_)
              simp only [go_sem, hlt, zSi]
              refine hK26 _ ?_
              refine awp_seq_k (fun K27 hK27 => ?_)
              refine awp_f rfl ?_
              refine awp_exit ?_
              refine hK20 _ ?_
              refine awp_seq_k (fun K28 hK28 => ?_)
              have : k = M.length := by omega
              subst this
              refine awp_plain 2 (by kernel_rfl) rfl (fun g18 hg18 => ?_)
              simp only [go_sem]
              refine hK28 _ ?_
              refine awp_ret ?_
              subst hr hw
              refine ends_own [⟨g7, 26, 1⟩, ⟨g7, 26, 2⟩] rfl ?_
              simp only [go_sem, newSto, newSi, canonSi, ownSi, hL, hM, upTo_all, upP_all]
              exact Co.refl _

theorem alike_calls0 : True := trivial
end Go.Proofs.T

