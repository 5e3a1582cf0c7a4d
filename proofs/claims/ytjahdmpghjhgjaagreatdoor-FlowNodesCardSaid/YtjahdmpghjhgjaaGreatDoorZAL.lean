/- A part of the proof, under no conditions of its own: ZAL. -/
import Derived.Test.YtjahdmpghjhgjaaGreatDoorZAK
import Derived.Test.YtjahdmpghjhgjaaGreatDoorZAJ
namespace Go.Proofs.T
open Go Go.Ab Go.RowKit

/-! ## Counting programs -/

mutual
def countEx : Ex → Nat → Nat
  | .mk _ nm ty ta ks _, n => countExs ks (cnt count ta (count ty (n + nm.size / 50)))
def countExs : List Ex → Nat → Nat
  | [], n => n
  | t :: r, n => if n ≤ 2000 then countExs r (countEx t n) else n
end
theorem countExs_cnt : ∀ (l : List Ex) (n : Nat), countExs l n = cnt countEx l n
  | [], n => by simp [countExs, cnt]
  | t :: r, n => by simp only [countExs, cnt, countExs_cnt r]
theorem countEx_eq (e : Ex) (n : Nat) : countEx e n = cnt countEx e.kids (cnt count e.targs (count e.type (n + e.name.size / 50))) := by
  cases e; rw [countEx, countExs_cnt]; rfl
theorem count_small (t : Ty) (h : okTy t) (n : Nat) (hn : n ≤ 2000) : count t n ≤ 3 * big := by
  have := count_le t n h
  unfold big at *
  omega
theorem countEx_le : ∀ e : Ex, okEx e → ∀ n, countEx e n ≤ n + 2 * big ∨ countEx e n ≤ 3 * big := by
  refine Ex.ind fun e ih he n => ?_
  obtain ⟨h1, h2, ⟨h3, h4⟩, h5, h6⟩ := (okEx_iff e).1 he
  have a1 := count_le e.type (n + e.name.size / 50) h2
  have a2 := cnt_le (3 * big) e.targs (count e.type (n + e.name.size / 50)) (fun a ha n hn => count_small a (h4 a ha) n hn)
  have hk : ∀ a ∈ e.kids, ∀ n, n ≤ 2000 → countEx a n ≤ 3 * big := fun a ha n hn => by
    have := ih a ha (h6 a ha) n
    unfold big at *
    omega
  have a3 := cnt_le (3 * big) e.kids (cnt count e.targs (count e.type (n + e.name.size / 50))) hk
  rw [countEx_eq]
  unfold big at *
  omega

theorem countEx_calls : ∀ e : Ex, okEx e → ∀ (n g d : Nat), n ≤ 3000000000000000000 → ACalls E 51 [encEx e, dN n] [] g d (dN (countEx e n)) [] := by
  have hbig : big = 184467440737097518 := rfl
  refine Ex.ind fun e ih he n g d hn => ?_
  obtain ⟨h1, h2, ⟨h3, h4⟩, h5, h6⟩ := (okEx_iff e).1 he
  have a1 := count_le e.type (n + e.name.size / 50) h2
  have a2 := cnt_le (3 * big) e.targs (count e.type (n + e.name.size / 50)) (fun a ha n hn => count_small a (h4 a ha) n hn)
  refine acalls_of_awp (fn := Tryz.f51) (N := 53) Tryz.call51 Tryz.func51 rfl rfl (by simp) ?_
  simp only [go_sem]
  refine awp_seq_k (fun K1 hK1 => ?_)
  refine awp_plain 2 (by kernel_rfl) rfl (fun g0 hg0 => ?_)
  simp only [go_sem]
  refine hK1 _ ?_
  refine awp_seq_k (fun K2 hK2 => ?_)
  refine awp_ops (by kernel_rfl) rfl (fun g1 hg1 ops1 KR1 hops1 hKR1 => ?_)
  refine aops_eval 8 hops1 ?_
  simp only [go_sem]
  try simp (disch := omega) only [wrapN, Int.tdiv_eq_ediv_of_nonneg]
  refine aops_pure hops1 rfl rfl rfl (count_calls _ h2 (n + e.name.size / 50) _ _ (by omega)) (CoL.refl _) ?_
  refine aops_last 1 hops1 ?_
  simp only [go_sem]
  refine hKR1 _ ?_
  refine hK2 _ ?_
  refine awp_seq_k (fun K3 hK3 => ?_)
  refine awp_seq_k (fun K4 hK4 => ?_)
  refine awp_plain 1 (by kernel_rfl) rfl (fun g2 hg2 => ?_)
  simp only [go_sem]
  refine hK4 _ ?_
  refine awp_block ?_
  refine awp_loop (fun m s => ∃ k n', k ≤ e.targs.length ∧ m = e.targs.length - k ∧ n' ≤ n + 4 * big ∧ cnt count (e.targs.drop k) n' = cnt count e.targs (count e.type (n + e.name.size / 50)) ∧
      Le { env := [(1, dN n'), (2, .ptr ⟨g0, 2, 0⟩ 0), (5, dN k)], σ := [(⟨g0, 2, 0⟩, .box 28 (exC e))] } s) e.targs.length ?_ ?_
  · refine ⟨0, count e.type (n + e.name.size / 50), Nat.zero_le _, rfl, by omega, rfl, le_of ?_⟩
    simp only [go_sem]
    trivial
  · rintro m s ⟨k, n', hk, rfl, hn', hc, hle⟩
    refine awp_keep hle ?_
    clear hle
    by_cases hlt : k < e.targs.length
    · have g1 := getM (f := encTy) hlt
      by_cases hle : n' ≤ 2000
      · have hle' : (n' : Int) ≤ 2000 := by omega
        have h7 := count_le _ n' (h4 _ (List.getElem_mem hlt))
        refine awp_seq_k (fun K5 hK5 => ?_)
        refine awp_seq_k (fun K6 hK6 => ?_)
        refine awp_plain 9 (by kernel_rfl) rfl (fun g3 hg3 => ?_)
        simp only [go_sem, hle', hlt]
        refine hK6 _ ?_
        refine awp_t rfl ?_
        refine awp_skip ?_
        refine hK5 _ ?_
        refine awp_seq_k (fun K7 hK7 => ?_)
        refine awp_block ?_
        refine awp_ops (by kernel_rfl) rfl (fun g5 hg5 ops5 KR5 hops5 hKR5 => ?_)
        refine aops_eval 6 hops5 ?_
        simp only [go_sem, g1]
        refine aops_pure hops5 rfl rfl rfl (count_calls _ (h4 _ (List.getElem_mem hlt)) n' _ _ (by omega)) (CoL.refl _) ?_
        refine aops_last 1 hops5 ?_
        simp only [go_sem]
        refine hKR5 _ ?_
        refine hK7 _ ?_
        refine awp_plain 3 (by kernel_rfl) rfl (fun g4 hg4 => ?_)
        simp only [go_sem]
        try simp (disch := omega) only [wrapN]
        rw [cnt_step hlt hle] at hc
        refine ⟨_, ?_, k + 1, count e.targs[k] n', hlt, rfl, by omega, hc, le_of ?_⟩
        · omega
        simp only [go_sem]
        omega
      · have hle' : ¬ (n' : Int) ≤ 2000 := by omega
        refine awp_seq_k (fun K8 hK8 => ?_)
        refine awp_seq_k (fun K9 hK9 => ?_)
        refine awp_plain 9 (by kernel_rfl) rfl (fun g3 hg3 => ?_)
        simp only [go_sem, hle', hlt]
        refine hK9 _ ?_
        rw [cnt_stop hle] at hc
        subst hc
        refine awp_f rfl ?_
        refine awp_exit ?_
        refine hK3 _ ?_
        refine awp_seq_k (fun K10 hK10 => ?_)
        refine awp_seq_k (fun K11 hK11 => ?_)
        refine awp_plain 1 (by kernel_rfl) rfl (fun g6 hg6 => ?_)
        simp only [go_sem]
        refine hK11 _ ?_
        refine awp_block ?_
        generalize hA : cnt count e.targs (count e.type (n + e.name.size / 50)) = A at *
        have hAb : A ≤ n + 4 * big := by omega
        refine awp_loop (fun m s => ∃ k n', k ≤ e.kids.length ∧ m = e.kids.length - k ∧ n' ≤ n + 7 * big ∧ cnt countEx (e.kids.drop k) n' = countEx e n ∧
            Le { env := [(1, dN n'), (2, .ptr ⟨g0, 2, 0⟩ 0), (6, dN k)], σ := [(⟨g0, 2, 0⟩, .box 28 (exC e))] } s) e.kids.length ?_ ?_
        · refine ⟨0, A, Nat.zero_le _, rfl, by omega, by rw [countEx_eq, hA]; rfl, le_of ?_⟩
          simp only [go_sem]
          trivial
        · rintro m s ⟨k, n', hk, rfl, hn', hc, hle⟩
          refine awp_keep hle ?_
          clear hle
          by_cases hlt : k < e.kids.length
          · have g1 := getM (f := encEx) hlt
            by_cases hle : n' ≤ 2000
            · have hle' : (n' : Int) ≤ 2000 := by omega
              have h7 := countEx_le _ (h6 _ (List.getElem_mem hlt)) n'
              refine awp_seq_k (fun K12 hK12 => ?_)
              refine awp_seq_k (fun K13 hK13 => ?_)
              refine awp_plain 9 (by kernel_rfl) rfl (fun g7 hg7 => ?_)
              simp only [go_sem, hle', hlt]
              refine hK13 _ ?_
              refine awp_t rfl ?_
              refine awp_skip ?_
              refine hK12 _ ?_
              refine awp_seq_k (fun K14 hK14 => ?_)
              refine awp_block ?_
              refine awp_ops (by kernel_rfl) rfl (fun g9 hg9 ops9 KR9 hops9 hKR9 => ?_)
              refine aops_eval 6 hops9 ?_
              simp only [go_sem, g1]
              refine aops_pure hops9 rfl rfl rfl (ih _ (List.getElem_mem hlt) (h6 _ (List.getElem_mem hlt)) n' _ _ (by omega)) (CoL.refl _) ?_
              refine aops_last 1 hops9 ?_
              simp only [go_sem]
              refine hKR9 _ ?_
              refine hK14 _ ?_
              refine awp_plain 3 (by kernel_rfl) rfl (fun g8 hg8 => ?_)
              simp only [go_sem]
              try simp (disch := omega) only [wrapN]
              rw [cnt_step hlt hle] at hc
              refine ⟨_, ?_, k + 1, countEx e.kids[k] n', hlt, rfl, by omega, hc, le_of ?_⟩
              · omega
              simp only [go_sem]
              omega
            · have hle' : ¬ (n' : Int) ≤ 2000 := by omega
              refine awp_seq_k (fun K15 hK15 => ?_)
              refine awp_seq_k (fun K16 hK16 => ?_)
              refine awp_plain 9 (by kernel_rfl) rfl (fun g7 hg7 => ?_)
              simp only [go_sem, hle', hlt]
              refine hK16 _ ?_
              rw [cnt_stop hle] at hc
              refine awp_f rfl ?_
              refine awp_exit ?_
              refine hK10 _ ?_
              refine awp_seq_k (fun K17 hK17 => ?_)
              refine awp_plain 2 (by kernel_rfl) rfl (fun g10 hg10 => ?_)
              simp only [go_sem]
              refine hK17 _ ?_
              refine awp_ret ?_
              rw [← hc]
              refine ends_ev rfl ?_
              simp only [go_sem]
              exact Co.refl _
          · refine awp_seq_k (fun K18 hK18 => ?_)
            refine awp_seq_k (fun K19 hK19 => ?_)
            refine awp_plain 9 (by kernel_rfl) rfl (fun g7 hg7 => ?_)
            simp only [go_sem, hlt]
            refine hK19 _ ?_
            rw [dropN _ _ (by omega)] at hc
            simp only [cnt] at hc
            refine awp_f rfl ?_
            refine awp_exit ?_
            refine hK10 _ ?_
            refine awp_seq_k (fun K20 hK20 => ?_)
            refine awp_plain 2 (by kernel_rfl) rfl (fun g10 hg10 => ?_)
            simp only [go_sem]
            refine hK20 _ ?_
            refine awp_ret ?_
            rw [← hc]
            refine ends_ev rfl ?_
            simp only [go_sem]
            exact Co.refl _
    · refine awp_seq_k (fun K21 hK21 => ?_)
      refine awp_seq_k (fun K22 hK22 => ?_)
      refine awp_plain 9 (by kernel_rfl) rfl (fun g3 hg3 => ?_)
      simp only [go_sem, hlt]
      refine hK22 _ ?_
      rw [dropN _ _ (by omega)] at hc
      simp only [cnt] at hc
      subst hc
      refine awp_f rfl ?_
      refine awp_exit ?_
      refine hK3 _ ?_
      refine awp_seq_k (fun K23 hK23 => ?_)
      refine awp_seq_k (fun K24 hK24 => ?_)
      refine awp_plain 1 (by kernel_rfl) rfl (fun g6 hg6 => ?_)
      simp only [go_sem]
      refine hK24 _ ?_
      refine awp_block ?_
      generalize hA : cnt count e.targs (count e.type (n + e.name.size / 50)) = A at *
      have hAb : A ≤ n + 4 * big := by omega
      refine awp_loop (fun m s => ∃ k n', k ≤ e.kids.length ∧ m = e.kids.length - k ∧ n' ≤ n + 7 * big ∧ cnt countEx (e.kids.drop k) n' = countEx e n ∧
          Le { env := [(1, dN n'), (2, .ptr ⟨g0, 2, 0⟩ 0), (6, dN k)], σ := [(⟨g0, 2, 0⟩, .box 28 (exC e))] } s) e.kids.length ?_ ?_
      · refine ⟨0, A, Nat.zero_le _, rfl, by omega, by rw [countEx_eq, hA]; rfl, le_of ?_⟩
        simp only [go_sem]
        trivial
      · rintro m s ⟨k, n', hk, rfl, hn', hc, hle⟩
        refine awp_keep hle ?_
        clear hle
        by_cases hlt : k < e.kids.length
        · have g1 := getM (f := encEx) hlt
          by_cases hle : n' ≤ 2000
          · have hle' : (n' : Int) ≤ 2000 := by omega
            have h7 := countEx_le _ (h6 _ (List.getElem_mem hlt)) n'
            refine awp_seq_k (fun K25 hK25 => ?_)
            refine awp_seq_k (fun K26 hK26 => ?_)
            refine awp_plain 9 (by kernel_rfl) rfl (fun g7 hg7 => ?_)
            simp only [go_sem, hle', hlt]
            refine hK26 _ ?_
            refine awp_t rfl ?_
            refine awp_skip ?_
            refine hK25 _ ?_
            refine awp_seq_k (fun K27 hK27 => ?_)
            refine awp_block ?_
            refine awp_ops (by kernel_rfl) rfl (fun g9 hg9 ops9 KR9 hops9 hKR9 => ?_)
            refine aops_eval 6 hops9 ?_
            simp only [go_sem, g1]
            refine aops_pure hops9 rfl rfl rfl (ih _ (List.getElem_mem hlt) (h6 _ (List.getElem_mem hlt)) n' _ _ (by omega)) (CoL.refl _) ?_
            refine aops_last 1 hops9 ?_
            simp only [go_sem]
            refine hKR9 _ ?_
            refine hK27 _ ?_
            refine awp_plain 3 (by kernel_rfl) rfl (fun g8 hg8 => ?_)
            simp only [go_sem]
            try simp (disch := omega) only [wrapN]
            rw [cnt_step hlt hle] at hc
            refine ⟨_, ?_, k + 1, countEx e.kids[k] n', hlt, rfl, by omega, hc, le_of ?_⟩
            · omega
            simp only [go_sem]
            omega
          · have hle' : ¬ (n' : Int) ≤ 2000 := by omega
            refine awp_seq_k (fun K28 hK28 => ?_)
            refine awp_seq_k (fun K29 hK29 => ?_)
            refine awp_plain 9 (by kernel_rfl) rfl (fun g7 hg7 => ?_)
            simp only [go_sem, hle', hlt]
            refine hK29 _ ?_
            rw [cnt_stop hle] at hc
            refine awp_f rfl ?_
            refine awp_exit ?_
            refine hK23 _ ?_
            refine awp_seq_k (fun K30 hK30 => ?_)
            refine awp_plain 2 (by kernel_rfl) rfl (fun g10 hg10 => ?_)
            simp only [go_sem]
            refine hK30 _ ?_
            refine awp_ret ?_
            rw [← hc]
            refine ends_ev rfl ?_
            simp only [go_sem]
            exact Co.refl _
        · refine awp_seq_k (fun K31 hK31 => ?_)
          refine awp_seq_k (fun K32 hK32 => ?_)
          refine awp_plain 9 (by kernel_rfl) rfl (fun g7 hg7 => ?_)
          simp only [go_sem, hlt]
          refine hK32 _ ?_
          rw [dropN _ _ (by omega)] at hc
          simp only [cnt] at hc
          refine awp_f rfl ?_
          refine awp_exit ?_
          refine hK23 _ ?_
          refine awp_seq_k (fun K33 hK33 => ?_)
          refine awp_plain 2 (by kernel_rfl) rfl (fun g10 hg10 => ?_)
          simp only [go_sem]
          refine hK33 _ ?_
          refine awp_ret ?_
          rw [← hc]
          refine ends_ev rfl ?_
          simp only [go_sem]
          exact Co.refl _

end Go.Proofs.T


namespace Go.Proofs.T
open Go Go.Ab Go.RowKit

def cntS (v : Str) (n : Nat) : Nat := n + 1 + v.size / 50
def cntHead (d : Dec) (n : Nat) : Nat := cnt cntPa d.fields (cnt cntFm d.formals (n + 1 + d.name.size / 50 + d.recv.size / 50))
def cntTail (d : Dec) (n : Nat) : Nat := if n ≤ 2000 then countEx d.body (cntSi d.sig n) else n
def cntDe (d : Dec) (n : Nat) : Nat := cntTail d (cnt cntS d.vars (cnt cntSi d.sigs (cntHead d n)))
def cntPr (p : Prg) : Nat := cnt cntDe p.decls (countEx p.main 0)

theorem cntS_le (v : Str) (h : v.size ≤ 9223372036854775807) (n : Nat) (hn : n ≤ 2000) : cntS v n ≤ 2 * big := by unfold cntS big; omega
theorem cntSi_small (s : Sig) (h : okSi s) (n : Nat) (hn : n ≤ 2000) : cntSi s n ≤ 7 * big := by
  have := cntSi_le s h n
  unfold big at *
  omega
theorem cntHead_le (d : Dec) (h : okDe d) (n : Nat) : cntHead d n ≤ n + 3 * big ∨ cntHead d n ≤ 3 * big := by
  obtain ⟨h1, ⟨h2, h3⟩, ⟨h4, h5⟩, _, h6, _⟩ := h
  have a1 := cnt_le (3 * big) d.formals (n + 1 + d.name.size / 50 + d.recv.size / 50) (fun a ha n hn => cntFm_le a (h3 a ha) n hn)
  have a2 := cnt_le (3 * big) d.fields (cnt cntFm d.formals (n + 1 + d.name.size / 50 + d.recv.size / 50)) (fun a ha n hn => cntPa_le a (h5 a ha) n hn)
  unfold cntHead
  unfold big at *
  omega
theorem cntTail_le (d : Dec) (h : okDe d) (n : Nat) : cntTail d n ≤ n ∨ cntTail d n ≤ 10 * big := by
  obtain ⟨_, _, _, _, _, _, h7, h8⟩ := h
  unfold cntTail
  split
  · rename_i hn
    have a1 := cntSi_le d.sig h7 n
    have a2 := countEx_le d.body h8 (cntSi d.sig n)
    unfold big at *
    omega
  · left; exact Nat.le_refl _
theorem cntDe_small (d : Dec) (h : okDe d) (n : Nat) (hn : n ≤ 2000) : cntDe d n ≤ 10 * big := by
  have h0 := h
  obtain ⟨h1, ⟨h2, h3⟩, ⟨h4, h5⟩, ⟨h6, h7⟩, h8, ⟨h9, h10⟩, h11, h12⟩ := h
  have a1 := cntHead_le d h0 n
  have a2 := cnt_le (7 * big) d.sigs (cntHead d n) (fun a ha n hn => cntSi_small a (h7 a ha) n hn)
  have a3 := cnt_le (7 * big) d.vars (cnt cntSi d.sigs (cntHead d n)) (fun a ha n hn => Nat.le_trans (cntS_le a (h10 a ha) n hn) (by unfold big; omega))
  have a4 := cntTail_le d h0 (cnt cntS d.vars (cnt cntSi d.sigs (cntHead d n)))
  unfold cntDe
  unfold big at *
  omega

theorem cntPr_calls (p : Prg) (hp : okPr p) (g d : Nat) : ACalls E 27 [encPr p] [] g d (dN (cntPr p)) [] := by
  have hbig : big = 184467440737097518 := rfl
  obtain ⟨⟨h1, h2⟩, h3⟩ := hp
  have b0 := countEx_le p.main h3 0
  refine acalls_of_awp (fn := Tryz.f27) (N := 94) Tryz.call27 Tryz.func27 rfl rfl (by simp) ?_
  simp only [go_sem]
  refine awp_seq_k (fun K1 hK1 => ?_)
  refine awp_plain 2 (by kernel_rfl) rfl (fun g0 hg0 => ?_)
  simp only [go_sem]
  refine hK1 _ ?_
  refine awp_seq_k (fun K2 hK2 => ?_)
  refine awp_ops (by kernel_rfl) rfl (fun g1 hg1 ops1 KR1 hops1 hKR1 => ?_)
  refine aops_eval 2 hops1 ?_
  simp only [go_sem]
  refine aops_pure hops1 rfl rfl rfl (countEx_calls _ h3 0 _ _ (by omega)) (CoL.refl _) ?_
  refine aops_last 1 hops1 ?_
  simp only [go_sem]
  refine hKR1 _ ?_
  refine hK2 _ ?_
  refine awp_seq_k (fun K3 hK3 => ?_)
  refine awp_seq_k (fun K4 hK4 => ?_)
  refine awp_plain 1 (by kernel_rfl) rfl (fun g2 hg2 => ?_)
  simp only [go_sem]
  refine hK4 _ ?_
  refine awp_block ?_
  refine awp_loop (fun m s => ∃ k n', k ≤ p.decls.length ∧ m = p.decls.length - k ∧ n' ≤ 10 * big ∧ cnt cntDe (p.decls.drop k) n' = cntPr p ∧
      Le { env := [(1, .ptr ⟨g0, 1, 0⟩ 0), (3, dN n'), (4, dN k)], σ := [(⟨g0, 1, 0⟩, .box 30 (prC p))] } s) p.decls.length ?_ ?_
  · refine ⟨0, countEx p.main 0, Nat.zero_le _, rfl, by omega, rfl, le_of ?_⟩
    simp only [go_sem]
    trivial
  · rintro m s ⟨k, n', hk, rfl, hn', hc, hle⟩
    refine awp_keep hle ?_
    clear hle
    by_cases hlt : k < p.decls.length
    · by_cases hle : n' ≤ 2000
      · have hle' : (n' : Int) ≤ 2000 := by omega
        have g1 := getM (f := encDe) hlt
        have hd := h2 _ (List.getElem_mem hlt)
        have hd0 := hd
        rw [cnt_step hlt hle] at hc
        have b1 := cntDe_small _ hd n' hle
        generalize p.decls[k] = D at *
        obtain ⟨i1, ⟨i2, i3⟩, ⟨i4, i5⟩, ⟨i6, i7⟩, i8, ⟨i9, i10⟩, i11, i12⟩ := hd
        have a1 := cntHead_le D hd0 n'
        have f1 := cnt_le (3 * big) D.formals (n' + 1 + D.name.size / 50 + D.recv.size / 50) (fun a ha n hn => cntFm_le a (i3 a ha) n hn)
        refine awp_seq_k (fun K5 hK5 => ?_)
        refine awp_seq_k (fun K6 hK6 => ?_)
        refine awp_plain 9 (by kernel_rfl) rfl (fun g3 hg3 => ?_)
        simp only [go_sem, hle', hlt]
        refine hK6 _ ?_
        refine awp_t rfl ?_
        refine awp_skip ?_
        refine hK5 _ ?_
        refine awp_seq_k (fun K7 hK7 => ?_)
        refine awp_block ?_
        refine awp_seq_k (fun K8 hK8 => ?_)
        refine awp_plain 7 (by kernel_rfl) rfl (fun g5 hg5 => ?_)
        simp only [go_sem, g1]
        refine hK8 _ ?_
        refine awp_seq_k (fun K9 hK9 => ?_)
        refine awp_any 18 (by kernel_rfl) (by kernel_rfl) rfl (fun g6 hg6 ops6 KR6 hops6 hKR6 => ?_)
        refine qrun_eval 16 hops6 ?_
        simp only [go_sem]
        try simp (disch := omega) only [wrapN, Int.tdiv_eq_ediv_of_nonneg]
        refine qrun_pure hops6 rfl rfl rfl (cntFm_calls D.formals (n' + 1 + D.name.size / 50 + D.recv.size / 50) i2 i3 (by omega) _ _) (CoL.refl _) rfl ?_
        refine qrun_pure hops6 rfl rfl rfl (cntPa_calls D.fields _ i4 i5 (by omega) _ _) (CoL.refl _) rfl ?_
        refine qrun_last 0 hops6 ?_
        simp only [go_sem]
        refine aops_last 1 hops6 ?_
        simp only [go_sem]
        refine hKR6 _ ?_
        refine hK9 _ ?_
        refine awp_seq_k (fun K10 hK10 => ?_)
        refine awp_seq_k (fun K11 hK11 => ?_)
        refine awp_plain 1 (by kernel_rfl) rfl (fun g7 hg7 => ?_)
        simp only [go_sem]
        refine hK11 _ ?_
        refine awp_block ?_
        generalize hH : cntHead D n' = H at *
        have hHd : H = cnt cntPa D.fields (cnt cntFm D.formals (n' + 1 + D.name.size / 50 + D.recv.size / 50)) := by rw [← hH]; rfl
        rw [← hHd]
        refine awp_loop (fun m s => ∃ j u, j ≤ D.sigs.length ∧ m = D.sigs.length - j ∧ u ≤ 14 * big ∧ cnt cntSi D.sigs (cntHead D n') = cnt cntSi (D.sigs.drop j) u ∧
            Le { env := [(1, .ptr ⟨g0, 1, 0⟩ 0), (3, dN u), (4, dN k), (5, .ptr ⟨g5, 5, 0⟩ 0), (6, dN j)], σ := [(⟨g0, 1, 0⟩, .box 30 (prC p)), (⟨g5, 5, 0⟩, .box 42 (deC D))] } s) D.sigs.length ?_ ?_
        · refine ⟨0, H, Nat.zero_le _, rfl, by omega, by rw [hH]; rfl, le_of ?_⟩
          simp only [go_sem]
          trivial
        · rintro m s ⟨j, u, hj, rfl, hub, hu0, hle2⟩
          refine awp_keep hle2 ?_
          clear hle2
          by_cases hjt : j < D.sigs.length
          · have g2 := getM (f := encSi) hjt
            by_cases hu : u ≤ 2000
            · have hu' : (u : Int) ≤ 2000 := by omega
              have s1 := cntSi_small _ (i7 _ (List.getElem_mem hjt)) u hu
              refine awp_seq_k (fun K12 hK12 => ?_)
              refine awp_seq_k (fun K13 hK13 => ?_)
              refine awp_plain 9 (by kernel_rfl) rfl (fun g8 hg8 => ?_)
              simp only [go_sem, hu', hjt]
              refine hK13 _ ?_
              refine awp_t rfl ?_
              refine awp_skip ?_
              refine hK12 _ ?_
              refine awp_seq_k (fun K14 hK14 => ?_)
              refine awp_block ?_
              refine awp_ops (by kernel_rfl) rfl (fun g10 hg10 ops10 KR10 hops10 hKR10 => ?_)
              refine aops_eval 6 hops10 ?_
              simp only [go_sem, g2]
              refine aops_pure hops10 rfl rfl rfl (cntSi_calls _ u (i7 _ (List.getElem_mem hjt)) (by omega) _ _) (CoL.refl _) ?_
              refine aops_last 1 hops10 ?_
              simp only [go_sem]
              refine hKR10 _ ?_
              refine hK14 _ ?_
              refine awp_plain 3 (by kernel_rfl) rfl (fun g9 hg9 => ?_)
              simp only [go_sem]
              try simp (disch := omega) only [wrapN]
              rw [cnt_step hjt hu] at hu0
              refine ⟨_, ?_, j + 1, cntSi D.sigs[j] u, hjt, rfl, by omega, hu0, le_of ?_⟩
              · omega
              simp only [go_sem]
              omega
            · have hu' : ¬ (u : Int) ≤ 2000 := by omega
              rw [cnt_stop hu] at hu0
              refine awp_seq_k (fun K15 hK15 => ?_)
              refine awp_seq_k (fun K16 hK16 => ?_)
              refine awp_plain 9 (by kernel_rfl) rfl (fun g8 hg8 => ?_)
              simp only [go_sem, hu', hjt]
              refine hK16 _ ?_
              refine awp_f rfl ?_
              refine awp_exit ?_
              refine hK10 _ ?_
              refine awp_seq_k (fun K17 hK17 => ?_)
              refine awp_seq_k (fun K18 hK18 => ?_)
              refine awp_plain 1 (by kernel_rfl) rfl (fun g11 hg11 => ?_)
              simp only [go_sem]
              refine hK18 _ ?_
              refine awp_block ?_
              refine awp_loop (fun m s => ∃ j v, j ≤ D.vars.length ∧ m = D.vars.length - j ∧ v ≤ 15 * big ∧ cnt cntS D.vars (cnt cntSi D.sigs (cntHead D n')) = cnt cntS (D.vars.drop j) v ∧
                  Le { env := [(1, .ptr ⟨g0, 1, 0⟩ 0), (3, dN v), (4, dN k), (5, .ptr ⟨g5, 5, 0⟩ 0), (7, dN j)], σ := [(⟨g0, 1, 0⟩, .box 30 (prC p)), (⟨g5, 5, 0⟩, .box 42 (deC D))] } s) D.vars.length ?_ ?_
              · refine ⟨0, u, Nat.zero_le _, rfl, by omega, by rw [hu0]; rfl, le_of ?_⟩
                simp only [go_sem]
                trivial
              · rintro m s ⟨j, v, hj, rfl, hvb, hv0, hle3⟩
                refine awp_keep hle3 ?_
                clear hle3
                by_cases hjt : j < D.vars.length
                · have g3 := getM (f := encS) hjt
                  by_cases hv2 : v ≤ 2000
                  · have hv2' : (v : Int) ≤ 2000 := by omega
                    have s1 := i10 _ (List.getElem_mem hjt)
                    have s2 := cntS_le _ s1 v hv2
                    refine awp_seq_k (fun K19 hK19 => ?_)
                    refine awp_seq_k (fun K20 hK20 => ?_)
                    refine awp_plain 9 (by kernel_rfl) rfl (fun g12 hg12 => ?_)
                    simp only [go_sem, hv2', hjt]
                    refine hK20 _ ?_
                    refine awp_t rfl ?_
                    refine awp_skip ?_
                    refine hK19 _ ?_
                    refine awp_seq_k (fun K21 hK21 => ?_)
                    refine awp_block ?_
                    refine awp_plain 11 (by kernel_rfl) rfl (fun g14 hg14 => ?_)
                    simp only [go_sem, g3]
                    try simp (disch := omega) only [wrapN, Int.tdiv_eq_ediv_of_nonneg]
                    refine hK21 _ ?_
                    refine awp_plain 3 (by kernel_rfl) rfl (fun g13 hg13 => ?_)
                    simp only [go_sem]
                    try simp (disch := omega) only [wrapN]
                    rw [cnt_step hjt hv2] at hv0
                    refine ⟨_, ?_, j + 1, cntS D.vars[j] v, hjt, rfl, by omega, hv0, le_of ?_⟩
                    · omega
                    simp only [go_sem, cntS]
                    omega
                  · have hv2' : ¬ (v : Int) ≤ 2000 := by omega
                    rw [cnt_stop hv2] at hv0
                    refine awp_seq_k (fun K22 hK22 => ?_)
                    refine awp_seq_k (fun K23 hK23 => ?_)
                    refine awp_plain 9 (by kernel_rfl) rfl (fun g12 hg12 => ?_)
                    simp only [go_sem, hv2', hjt]
                    refine hK23 _ ?_
                    refine awp_f rfl ?_
                    refine awp_exit ?_
                    refine hK17 _ ?_
                    refine awp_seq_k (fun K24 hK24 => ?_)
                    by_cases hv : v ≤ 2000
                    · have hv' : (v : Int) ≤ 2000 := by omega
                      have t1 := cntSi_le D.sig i11 v
                      have t2 := countEx_le D.body i12 (cntSi D.sig v)
                      have ht : cntTail D v = countEx D.body (cntSi D.sig v) := by unfold cntTail; rw [if_pos hv]
                      refine awp_plain 2 (by kernel_rfl) rfl (fun g15 hg15 => ?_)
                      simp only [go_sem, hv']
                      refine hK24 _ ?_
                      refine awp_t rfl ?_
                      refine awp_any 7 (by kernel_rfl) (by kernel_rfl) rfl (fun g16 hg16 ops16 KR16 hops16 hKR16 => ?_)
                      refine qrun_eval 5 hops16 ?_
                      simp only [go_sem]
                      refine qrun_pure hops16 rfl rfl rfl (cntSi_calls D.sig v i11 (by omega) _ _) (CoL.refl _) rfl ?_
                      refine qrun_pure hops16 rfl rfl rfl (countEx_calls _ i12 _ _ _ (by omega)) (CoL.refl _) rfl ?_
                      refine qrun_last 0 hops16 ?_
                      simp only [go_sem]
                      refine aops_last 1 hops16 ?_
                      simp only [go_sem]
                      refine hKR16 _ ?_
                      refine hK7 _ ?_
                      refine awp_plain 3 (by kernel_rfl) rfl (fun g4 hg4 => ?_)
                      simp only [go_sem]
                      try simp (disch := omega) only [wrapN]
                      refine ⟨_, ?_, k + 1, cntDe D n', hlt, rfl, by omega, hc, le_of ?_⟩
                      · omega
                      rw [show cntDe D n' = countEx D.body (cntSi D.sig v) by rw [← ht, ← hv0]; rfl]
                      simp only [go_sem]
                      omega
                    · have hv' : ¬ (v : Int) ≤ 2000 := by omega
                      have ht : cntTail D v = v := by unfold cntTail; rw [if_neg hv]
                      refine awp_plain 2 (by kernel_rfl) rfl (fun g15 hg15 => ?_)
                      simp only [go_sem, hv']
                      refine hK24 _ ?_
                      refine awp_f rfl ?_
                      refine awp_skip ?_
                      refine hK7 _ ?_
                      refine awp_plain 3 (by kernel_rfl) rfl (fun g4 hg4 => ?_)
                      simp only [go_sem]
                      try simp (disch := omega) only [wrapN]
                      refine ⟨_, ?_, k + 1, cntDe D n', hlt, rfl, by omega, hc, le_of ?_⟩
                      · omega
                      rw [show cntDe D n' = v by rw [← ht, ← hv0]; rfl]
                      simp only [go_sem]
                      omega
                · rw [dropN _ _ (by omega)] at hv0
                  simp only [cnt] at hv0
                  refine awp_seq_k (fun K25 hK25 => ?_)
                  refine awp_seq_k (fun K26 hK26 => ?_)
                  refine awp_plain 9 (by kernel_rfl) rfl (fun g12 hg12 => ?_)
                  simp only [go_sem, hjt]
                  refine hK26 _ ?_
                  refine awp_f rfl ?_
                  refine awp_exit ?_
                  refine hK17 _ ?_
                  refine awp_seq_k (fun K27 hK27 => ?_)
                  by_cases hv : v ≤ 2000
                  · have hv' : (v : Int) ≤ 2000 := by omega
                    have t1 := cntSi_le D.sig i11 v
                    have t2 := countEx_le D.body i12 (cntSi D.sig v)
                    have ht : cntTail D v = countEx D.body (cntSi D.sig v) := by unfold cntTail; rw [if_pos hv]
                    refine awp_plain 2 (by kernel_rfl) rfl (fun g15 hg15 => ?_)
                    simp only [go_sem, hv']
                    refine hK27 _ ?_
                    refine awp_t rfl ?_
                    refine awp_any 7 (by kernel_rfl) (by kernel_rfl) rfl (fun g16 hg16 ops16 KR16 hops16 hKR16 => ?_)
                    refine qrun_eval 5 hops16 ?_
                    simp only [go_sem]
                    refine qrun_pure hops16 rfl rfl rfl (cntSi_calls D.sig v i11 (by omega) _ _) (CoL.refl _) rfl ?_
                    refine qrun_pure hops16 rfl rfl rfl (countEx_calls _ i12 _ _ _ (by omega)) (CoL.refl _) rfl ?_
                    refine qrun_last 0 hops16 ?_
                    simp only [go_sem]
                    refine aops_last 1 hops16 ?_
                    simp only [go_sem]
                    refine hKR16 _ ?_
                    refine hK7 _ ?_
                    refine awp_plain 3 (by kernel_rfl) rfl (fun g4 hg4 => ?_)
                    simp only [go_sem]
                    try simp (disch := omega) only [wrapN]
                    refine ⟨_, ?_, k + 1, cntDe D n', hlt, rfl, by omega, hc, le_of ?_⟩
                    · omega
                    rw [show cntDe D n' = countEx D.body (cntSi D.sig v) by rw [← ht, ← hv0]; rfl]
                    simp only [go_sem]
                    omega
                  · have hv' : ¬ (v : Int) ≤ 2000 := by omega
                    have ht : cntTail D v = v := by unfold cntTail; rw [if_neg hv]
                    refine awp_plain 2 (by kernel_rfl) rfl (fun g15 hg15 => ?_)
                    simp only [go_sem, hv']
                    refine hK27 _ ?_
                    refine awp_f rfl ?_
                    refine awp_skip ?_
                    refine hK7 _ ?_
                    refine awp_plain 3 (by kernel_rfl) rfl (fun g4 hg4 => ?_)
                    simp only [go_sem]
                    try simp (disch := omega) only [wrapN]
                    refine ⟨_, ?_, k + 1, cntDe D n', hlt, rfl, by omega, hc, le_of ?_⟩
                    · omega
                    rw [show cntDe D n' = v by rw [← ht, ← hv0]; rfl]
                    simp only [go_sem]
                    omega
          · rw [dropN _ _ (by omega)] at hu0
            simp only [cnt] at hu0
            refine awp_seq_k (fun K28 hK28 => ?_)
            refine awp_seq_k (fun K29 hK29 => ?_)
            refine awp_plain 9 (by kernel_rfl) rfl (fun g8 hg8 => ?_)
            simp only [go_sem, hjt]
            refine hK29 _ ?_
            refine awp_f rfl ?_
            refine awp_exit ?_
            refine hK10 _ ?_
            refine awp_seq_k (fun K30 hK30 => ?_)
            refine awp_seq_k (fun K31 hK31 => ?_)
            refine awp_plain 1 (by kernel_rfl) rfl (fun g11 hg11 => ?_)
            simp only [go_sem]
            refine hK31 _ ?_
            refine awp_block ?_
            refine awp_loop (fun m s => ∃ j v, j ≤ D.vars.length ∧ m = D.vars.length - j ∧ v ≤ 15 * big ∧ cnt cntS D.vars (cnt cntSi D.sigs (cntHead D n')) = cnt cntS (D.vars.drop j) v ∧
                Le { env := [(1, .ptr ⟨g0, 1, 0⟩ 0), (3, dN v), (4, dN k), (5, .ptr ⟨g5, 5, 0⟩ 0), (7, dN j)], σ := [(⟨g0, 1, 0⟩, .box 30 (prC p)), (⟨g5, 5, 0⟩, .box 42 (deC D))] } s) D.vars.length ?_ ?_
            · refine ⟨0, u, Nat.zero_le _, rfl, by omega, by rw [hu0]; rfl, le_of ?_⟩
              simp only [go_sem]
              trivial
            · rintro m s ⟨j, v, hj, rfl, hvb, hv0, hle3⟩
              refine awp_keep hle3 ?_
              clear hle3
              by_cases hjt : j < D.vars.length
              · have g3 := getM (f := encS) hjt
                by_cases hv2 : v ≤ 2000
                · have hv2' : (v : Int) ≤ 2000 := by omega
                  have s1 := i10 _ (List.getElem_mem hjt)
                  have s2 := cntS_le _ s1 v hv2
                  refine awp_seq_k (fun K32 hK32 => ?_)
                  refine awp_seq_k (fun K33 hK33 => ?_)
                  refine awp_plain 9 (by kernel_rfl) rfl (fun g12 hg12 => ?_)
                  simp only [go_sem, hv2', hjt]
                  refine hK33 _ ?_
                  refine awp_t rfl ?_
                  refine awp_skip ?_
                  refine hK32 _ ?_
                  refine awp_seq_k (fun K34 hK34 => ?_)
                  refine awp_block ?_
                  refine awp_plain 11 (by kernel_rfl) rfl (fun g14 hg14 => ?_)
                  simp only [go_sem, g3]
                  try simp (disch := omega) only [wrapN, Int.tdiv_eq_ediv_of_nonneg]
                  refine hK34 _ ?_
                  refine awp_plain 3 (by kernel_rfl) rfl (fun g13 hg13 => ?_)
                  simp only [go_sem]
                  try simp (disch := omega) only [wrapN]
                  rw [cnt_step hjt hv2] at hv0
                  refine ⟨_, ?_, j + 1, cntS D.vars[j] v, hjt, rfl, by omega, hv0, le_of ?_⟩
                  · omega
                  simp only [go_sem, cntS]
                  omega
                · have hv2' : ¬ (v : Int) ≤ 2000 := by omega
                  rw [cnt_stop hv2] at hv0
                  refine awp_seq_k (fun K35 hK35 => ?_)
                  refine awp_seq_k (fun K36 hK36 => ?_)
                  refine awp_plain 9 (by kernel_rfl) rfl (fun g12 hg12 => ?_)
                  simp only [go_sem, hv2', hjt]
                  refine hK36 _ ?_
                  refine awp_f rfl ?_
                  refine awp_exit ?_
                  refine hK30 _ ?_
                  refine awp_seq_k (fun K37 hK37 => ?_)
                  by_cases hv : v ≤ 2000
                  · have hv' : (v : Int) ≤ 2000 := by omega
                    have t1 := cntSi_le D.sig i11 v
                    have t2 := countEx_le D.body i12 (cntSi D.sig v)
                    have ht : cntTail D v = countEx D.body (cntSi D.sig v) := by unfold cntTail; rw [if_pos hv]
                    refine awp_plain 2 (by kernel_rfl) rfl (fun g15 hg15 => ?_)
                    simp only [go_sem, hv']
                    refine hK37 _ ?_
                    refine awp_t rfl ?_
                    refine awp_any 7 (by kernel_rfl) (by kernel_rfl) rfl (fun g16 hg16 ops16 KR16 hops16 hKR16 => ?_)
                    refine qrun_eval 5 hops16 ?_
                    simp only [go_sem]
                    refine qrun_pure hops16 rfl rfl rfl (cntSi_calls D.sig v i11 (by omega) _ _) (CoL.refl _) rfl ?_
                    refine qrun_pure hops16 rfl rfl rfl (countEx_calls _ i12 _ _ _ (by omega)) (CoL.refl _) rfl ?_
                    refine qrun_last 0 hops16 ?_
                    simp only [go_sem]
                    refine aops_last 1 hops16 ?_
                    simp only [go_sem]
                    refine hKR16 _ ?_
                    refine hK7 _ ?_
                    refine awp_plain 3 (by kernel_rfl) rfl (fun g4 hg4 => ?_)
                    simp only [go_sem]
                    try simp (disch := omega) only [wrapN]
                    refine ⟨_, ?_, k + 1, cntDe D n', hlt, rfl, by omega, hc, le_of ?_⟩
                    · omega
                    rw [show cntDe D n' = countEx D.body (cntSi D.sig v) by rw [← ht, ← hv0]; rfl]
                    simp only [go_sem]
                    omega
                  · have hv' : ¬ (v : Int) ≤ 2000 := by omega
                    have ht : cntTail D v = v := by unfold cntTail; rw [if_neg hv]
                    refine awp_plain 2 (by kernel_rfl) rfl (fun g15 hg15 => ?_)
                    simp only [go_sem, hv']
                    refine hK37 _ ?_
                    refine awp_f rfl ?_
                    refine awp_skip ?_
                    refine hK7 _ ?_
                    refine awp_plain 3 (by kernel_rfl) rfl (fun g4 hg4 => ?_)
                    simp only [go_sem]
                    try simp (disch := omega) only [wrapN]
                    refine ⟨_, ?_, k + 1, cntDe D n', hlt, rfl, by omega, hc, le_of ?_⟩
                    · omega
                    rw [show cntDe D n' = v by rw [← ht, ← hv0]; rfl]
                    simp only [go_sem]
                    omega
              · rw [dropN _ _ (by omega)] at hv0
                simp only [cnt] at hv0
                refine awp_seq_k (fun K38 hK38 => ?_)
                refine awp_seq_k (fun K39 hK39 => ?_)
                refine awp_plain 9 (by kernel_rfl) rfl (fun g12 hg12 => ?_)
                simp only [go_sem, hjt]
                refine hK39 _ ?_
                refine awp_f rfl ?_
                refine awp_exit ?_
                refine hK30 _ ?_
                refine awp_seq_k (fun K40 hK40 => ?_)
                by_cases hv : v ≤ 2000
                · have hv' : (v : Int) ≤ 2000 := by omega
                  have t1 := cntSi_le D.sig i11 v
                  have t2 := countEx_le D.body i12 (cntSi D.sig v)
                  have ht : cntTail D v = countEx D.body (cntSi D.sig v) := by unfold cntTail; rw [if_pos hv]
                  refine awp_plain 2 (by kernel_rfl) rfl (fun g15 hg15 => ?_)
                  simp only [go_sem, hv']
                  refine hK40 _ ?_
                  refine awp_t rfl ?_
                  refine awp_any 7 (by kernel_rfl) (by kernel_rfl) rfl (fun g16 hg16 ops16 KR16 hops16 hKR16 => ?_)
                  refine qrun_eval 5 hops16 ?_
                  simp only [go_sem]
                  refine qrun_pure hops16 rfl rfl rfl (cntSi_calls D.sig v i11 (by omega) _ _) (CoL.refl _) rfl ?_
                  refine qrun_pure hops16 rfl rfl rfl (countEx_calls _ i12 _ _ _ (by omega)) (CoL.refl _) rfl ?_
                  refine qrun_last 0 hops16 ?_
                  simp only [go_sem]
                  refine aops_last 1 hops16 ?_
                  simp only [go_sem]
                  refine hKR16 _ ?_
                  refine hK7 _ ?_
                  refine awp_plain 3 (by kernel_rfl) rfl (fun g4 hg4 => ?_)
                  simp only [go_sem]
                  try simp (disch := omega) only [wrapN]
                  refine ⟨_, ?_, k + 1, cntDe D n', hlt, rfl, by omega, hc, le_of ?_⟩
                  · omega
                  rw [show cntDe D n' = countEx D.body (cntSi D.sig v) by rw [← ht, ← hv0]; rfl]
                  simp only [go_sem]
                  omega
                · have hv' : ¬ (v : Int) ≤ 2000 := by omega
                  have ht : cntTail D v = v := by unfold cntTail; rw [if_neg hv]
                  refine awp_plain 2 (by kernel_rfl) rfl (fun g15 hg15 => ?_)
                  simp only [go_sem, hv']
                  refine hK40 _ ?_
                  refine awp_f rfl ?_
                  refine awp_skip ?_
                  refine hK7 _ ?_
                  refine awp_plain 3 (by kernel_rfl) rfl (fun g4 hg4 => ?_)
                  simp only [go_sem]
                  try simp (disch := omega) only [wrapN]
                  refine ⟨_, ?_, k + 1, cntDe D n', hlt, rfl, by omega, hc, le_of ?_⟩
                  · omega
                  rw [show cntDe D n' = v by rw [← ht, ← hv0]; rfl]
                  simp only [go_sem]
                  omega
      · have hle' : ¬ (n' : Int) ≤ 2000 := by omega
        refine awp_seq_k (fun K41 hK41 => ?_)
        refine awp_seq_k (fun K42 hK42 => ?_)
        refine awp_plain 9 (by kernel_rfl) rfl (fun g3 hg3 => ?_)
        simp only [go_sem, hle', hlt]
        refine hK42 _ ?_
        rw [cnt_stop hle] at hc
        subst hc
        refine awp_f rfl ?_
        refine awp_exit ?_
        refine hK3 _ ?_
        refine awp_seq_k (fun K43 hK43 => ?_)
        refine awp_plain 2 (by kernel_rfl) rfl (fun g17 hg17 => ?_)
        simp only [go_sem]
        refine hK43 _ ?_
        refine awp_ret ?_
        refine ends_ev rfl ?_
        simp only [go_sem]
        exact Co.refl _
    · refine awp_seq_k (fun K44 hK44 => ?_)
      refine awp_seq_k (fun K45 hK45 => ?_)
      refine awp_plain 9 (by kernel_rfl) rfl (fun g3 hg3 => ?_)
      simp only [go_sem, hlt]
      refine hK45 _ ?_
      rw [dropN _ _ (by omega)] at hc
      simp only [cnt] at hc
      subst hc
      refine awp_f rfl ?_
      refine awp_exit ?_
      refine hK3 _ ?_
      refine awp_seq_k (fun K46 hK46 => ?_)
      refine awp_plain 2 (by kernel_rfl) rfl (fun g17 hg17 => ?_)
      simp only [go_sem]
      refine hK46 _ ?_
      refine awp_ret ?_
      refine ends_ev rfl ?_
      simp only [go_sem]
      exact Co.refl _

theorem few06_calls (p : Prg) (hp : okPr p) (g d : Nat) : ACalls E 9 [encPr p] [] g d (dB (decide (cntPr p ≤ 600))) [] := by
  have h : ((cntPr p : Int) ≤ 600) = (cntPr p ≤ 600) := by apply propext; omega
  refine acalls_of_awp (fn := Tryz.f9) (N := 6) Tryz.call9 Tryz.func9 rfl rfl (by simp) ?_
  simp only [go_sem]
  refine awp_seq_k (fun K1 hK1 => ?_)
  refine awp_plain 2 (by kernel_rfl) rfl (fun g0 hg0 => ?_)
  simp only [go_sem]
  refine hK1 _ ?_
  refine awp_seq_k (fun K2 hK2 => ?_)
  refine awp_ops (by kernel_rfl) rfl (fun g1 hg1 ops1 KR1 hops1 hKR1 => ?_)
  refine aops_eval 1 hops1 ?_
  simp only [go_sem]
  refine aops_pure hops1 rfl rfl rfl (cntPr_calls _ hp _ _) (CoL.refl _) ?_
  refine aops_last 2 hops1 ?_
  simp only [go_sem]
  refine hKR1 _ ?_
  refine hK2 _ ?_
  refine awp_ret ?_
  refine ends_ev rfl ?_
  simp only [go_sem]
  exact Co.of_eq (by simp only [h])

end Go.Proofs.T


namespace Go.Proofs.T
open Go Go.Ab Go.RowKit

/-! ## What is counted as small has small sizes -/

theorem cnt_ge {α : Type} {f : α → Nat → Nat} (hf : ∀ a n, n ≤ f a n) : ∀ (l : List α) (n : Nat), n ≤ cnt f l n
  | [], n => Nat.le_refl _
  | a :: r, n => by
    simp only [cnt]
    split
    · exact Nat.le_trans (hf a n) (cnt_ge hf r _)
    · exact Nat.le_refl _
theorem cnt_small {α : Type} {f : α → Nat → Nat} (hf : ∀ a n, n + 1 ≤ f a n) : ∀ (l : List α) (n : Nat), cnt f l n ≤ 2000 → n + l.length ≤ cnt f l n ∧ ∀ a ∈ l, ∃ m, f a m ≤ cnt f l n
  | [], n, _ => ⟨Nat.le_refl _, fun a h => by cases h⟩
  | a :: r, n, h => by
    have hg : ∀ m, m ≤ cnt f r m := fun m => cnt_ge (fun a n => Nat.le_trans (Nat.le_succ n) (hf a n)) r m
    have hn : n ≤ 2000 := by
      simp only [cnt] at h
      split at h
      · assumption
      · exact h
    simp only [cnt] at h ⊢
    rw [if_pos hn] at h ⊢
    obtain ⟨h1, h2⟩ := cnt_small hf r (f a n) h
    have := hf a n
    refine ⟨by simp only [List.length_cons]; omega, fun x hx => ?_⟩
    rcases List.mem_cons.1 hx with rfl | hx
    · exact ⟨n, hg _⟩
    · exact h2 x hx

theorem count_ge : ∀ (t : Ty) (n : Nat), n + 1 + t.name.size / 50 ≤ count t n := by
  refine Ty.ind fun t ih n => ?_
  rw [count_eq, countL_cnt]
  have : ∀ (l : List Ty), (∀ x ∈ l, ∀ n, n + 1 + x.name.size / 50 ≤ count x n) → ∀ n, n ≤ cnt count l n := by
    intro l
    induction l with
    | nil => intro _ n; exact Nat.le_refl _
    | cons a r ih2 =>
      intro h n
      simp only [cnt]
      split
      · have := h a List.mem_cons_self n
        exact Nat.le_trans (by omega) (ih2 (fun x hx => h x (List.mem_cons_of_mem _ hx)) _)
      · exact Nat.le_refl _
  exact this _ ih _

theorem count_sm : ∀ (t : Ty) (n : Nat), count t n ≤ 2000 → smTy t := by
  refine Ty.ind fun t ih n h => ?_
  have h0 := count_ge t n
  rw [count_eq, countL_cnt] at h
  obtain ⟨h1, h2⟩ := cnt_small (fun a n => by have := count_ge a n; omega) _ _ h
  refine (smTy_iff t).2 ⟨?_, by omega, fun x hx => ?_⟩
  · rw [count_eq, countL_cnt] at h0; omega
  · obtain ⟨m, hm⟩ := h2 x hx
    exact ih x hx m (by omega)

theorem cntFm_sm (f : Formal) (n : Nat) (h : cntFm f n ≤ 2000) : smFm f := by
  have := count_ge f.bound (n + 1 + f.name.size / 50)
  unfold cntFm at h
  exact ⟨by omega, count_sm _ _ h⟩
theorem cntPa_sm (f : Param) (n : Nat) (h : cntPa f n ≤ 2000) : smPa f := by
  have := count_ge f.type (n + 1 + f.name.size / 50)
  unfold cntPa at h
  exact ⟨by omega, count_sm _ _ h⟩
theorem cntFm_ge (f : Formal) (n : Nat) : n + 1 ≤ cntFm f n := by
  have := count_ge f.bound (n + 1 + f.name.size / 50)
  unfold cntFm; omega
theorem cntPa_ge (f : Param) (n : Nat) : n + 1 ≤ cntPa f n := by
  have := count_ge f.type (n + 1 + f.name.size / 50)
  unfold cntPa; omega
theorem cntFms_sm (l : List Formal) (n : Nat) (h : cnt cntFm l n ≤ 2000) : l.length ≤ 2000 ∧ ∀ f ∈ l, smFm f := by
  obtain ⟨h1, h2⟩ := cnt_small cntFm_ge l n h
  exact ⟨by omega, fun f hf => let ⟨m, hm⟩ := h2 f hf; cntFm_sm f m (by omega)⟩
theorem cntPas_sm (l : List Param) (n : Nat) (h : cnt cntPa l n ≤ 2000) : l.length ≤ 2000 ∧ ∀ f ∈ l, smPa f := by
  obtain ⟨h1, h2⟩ := cnt_small cntPa_ge l n h
  exact ⟨by omega, fun f hf => let ⟨m, hm⟩ := h2 f hf; cntPa_sm f m (by omega)⟩
theorem cntTys_sm (l : List Ty) (n : Nat) (h : cnt count l n ≤ 2000) : l.length ≤ 2000 ∧ ∀ f ∈ l, smTy f := by
  obtain ⟨h1, h2⟩ := cnt_small (fun t n => by have := count_ge t n; omega) l n h
  exact ⟨by omega, fun f hf => let ⟨m, hm⟩ := h2 f hf; count_sm f m (by omega)⟩

theorem cntSi_ge (s : Sig) (n : Nat) : n + 1 ≤ cntSi s n := by
  have h1 := cnt_ge (fun a n => Nat.le_trans (Nat.le_succ n) (cntFm_ge a n)) s.formals (n + s.name.size / 50)
  have h2 := cnt_ge (fun a n => Nat.le_trans (Nat.le_succ n) (cntPa_ge a n)) s.params (cnt cntFm s.formals (n + s.name.size / 50))
  have h3 := count_ge s.result (cnt cntPa s.params (cnt cntFm s.formals (n + s.name.size / 50)))
  unfold cntSi
  omega
theorem cntSi_sm (s : Sig) (n : Nat) (h : cntSi s n ≤ 2000) : smSi s ∧ s.formals.length ≤ 2000 ∧ s.params.length ≤ 2000 := by
  have h1 := cnt_ge (fun a n => Nat.le_trans (Nat.le_succ n) (cntFm_ge a n)) s.formals (n + s.name.size / 50)
  have h2 := cnt_ge (fun a n => Nat.le_trans (Nat.le_succ n) (cntPa_ge a n)) s.params (cnt cntFm s.formals (n + s.name.size / 50))
  have h3 := count_ge s.result (cnt cntPa s.params (cnt cntFm s.formals (n + s.name.size / 50)))
  unfold cntSi at h
  have a1 := cntFms_sm s.formals (n + s.name.size / 50) (by omega)
  have a2 := cntPas_sm s.params _ (show cnt cntPa s.params (cnt cntFm s.formals (n + s.name.size / 50)) ≤ 2000 by omega)
  exact ⟨⟨by omega, ⟨by omega, a1.2⟩, ⟨by omega, a2.2⟩, count_sm _ _ h⟩, a1.1, a2.1⟩

/-! ## The guards of the laws -/

def zeroEx : Ex := .mk 0 ByteArray.empty zeroTy [] [] 0
def decSig (s : Sig) : Dec := ⟨0, ByteArray.empty, [], [], [], ByteArray.empty, [], s, zeroEx, 0⟩
def decEnv (l : List Formal) : Dec := ⟨0, ByteArray.empty, l, [], [], ByteArray.empty, [], zeroSi, zeroEx, 0⟩
def few10 (s : Sig) : Bool := decide (cntPr ⟨[decSig s], zeroEx⟩ ≤ 600)
def fewEnv (l : List Formal) : Bool := decide (cntPr ⟨[decEnv l], zeroEx⟩ ≤ 600)

theorem countEx_ge : ∀ (e : Ex) (n : Nat), n + 1 ≤ countEx e n := by
  refine Ex.ind fun e ih n => ?_
  rw [countEx_eq]
  have h1 := count_ge e.type (n + e.name.size / 50)
  have h2 := cnt_ge (f := count) (fun t m => by have := count_ge t m; omega) e.targs (count e.type (n + e.name.size / 50))
  have : ∀ (l : List Ex), (∀ x ∈ l, ∀ n, n + 1 ≤ countEx x n) → ∀ n, n ≤ cnt countEx l n := by
    intro l
    induction l with
    | nil => intro _ n; exact Nat.le_refl _
    | cons a r ih2 =>
      intro h n
      simp only [cnt]
      split
      · have := h a List.mem_cons_self n
        exact Nat.le_trans (by omega) (ih2 (fun x hx => h x (List.mem_cons_of_mem _ hx)) _)
      · exact Nat.le_refl _
  have h3 := this e.kids ih (cnt count e.targs (count e.type (n + e.name.size / 50)))
  omega

end Go.Proofs.T


namespace Go.Proofs.T
open Go Go.Ab Go.RowKit

/-! ## Being the same is an equivalence -/

mutual
def strip : Ty → Ty
  | .mk n x _ => .mk n (strips x) 0
def strips : List Ty → List Ty
  | [] => []
  | t :: r => strip t :: strips r
end
mutual
theorem cmpTy_iff : ∀ (t u : Ty), cmpTy t u = 0 ↔ strip t = strip u
  | .mk a x p, .mk b y q => by
    simp only [cmpTy, strip, Ty.mk.injEq, and_true]
    rw [← cmpTys_iff x y, ← cmpS_zero]
    split
    · rename_i h; simp [h]
    · rename_i h; simp [h]
theorem cmpTys_iff : ∀ (x y : List Ty), cmpTys x y = 0 ↔ strips x = strips y
  | [], [] => by simp [cmpTys]
  | [], _ :: _ => by simp [cmpTys, strips]
  | _ :: _, [] => by simp [cmpTys, strips]
  | t :: x, u :: y => by
    simp only [cmpTys, strips, List.cons.injEq]
    rw [← cmpTys_iff x y, ← cmpTy_iff t u]
    split
    · rename_i h; simp [h]
    · rename_i h; simp [h]
end
def keyFm (a : Formal) : Str × Ty := (a.name, strip a.bound)
def keyPa (a : Param) : Str × Ty := (a.name, strip a.type)
def keySi (s : Sig) : Str × List (Str × Ty) × List (Str × Ty) × Ty := (s.name, s.formals.map keyFm, s.params.map keyPa, strip s.result)
def key (s : Sig) := keySi (canonSi s)
/-! ## The canonical form of a canonical form -/

end Go.Proofs.T


namespace Go.Proofs.T
open Go Go.Ab Go.RowKit

/-! ## What is compared with itself -/

end Go.Proofs.T


namespace Go.Proofs.T
open Go Go.Ab Go.RowKit

/-! ## Copies -/


/-! Small expressions, declarations, programs. -/
mutual
def smEx : Ex → Prop
  | .mk _ n t a c _ => n.size ≤ 1000000 ∧ smTy t ∧ (a.length ≤ 1000000 ∧ ∀ x ∈ a, smTy x) ∧ c.length ≤ 1000000 ∧ smExs c
def smExs : List Ex → Prop
  | [] => True
  | t :: r => smEx t ∧ smExs r
end
theorem smExs_iff : ∀ l, smExs l ↔ ∀ t ∈ l, smEx t
  | [] => by simp [smExs]
  | t :: r => by simp [smExs, smExs_iff r]
theorem smEx_iff (e : Ex) : smEx e ↔ e.name.size ≤ 1000000 ∧ smTy e.type ∧ (e.targs.length ≤ 1000000 ∧ ∀ x ∈ e.targs, smTy x) ∧ e.kids.length ≤ 1000000 ∧ ∀ x ∈ e.kids, smEx x := by
  cases e
  simp [smEx, smExs_iff]
def smDe (d : Dec) : Prop := d.name.size ≤ 1000000 ∧ (d.formals.length ≤ 2000 ∧ ∀ f ∈ d.formals, smFm f) ∧ (d.fields.length ≤ 1000000 ∧ ∀ f ∈ d.fields, smPa f) ∧ (d.sigs.length ≤ 1000000 ∧ ∀ f ∈ d.sigs, smSi f) ∧ d.recv.size ≤ 1000000 ∧
  (d.vars.length ≤ 1000000 ∧ ∀ f ∈ d.vars, f.size ≤ 1000000) ∧ smSi d.sig ∧ smEx d.body
def smPr (p : Prg) : Prop := (p.decls.length ≤ 2000 ∧ ∀ f ∈ p.decls, smDe f) ∧ smEx p.main

end Go.Proofs.T


namespace Go.Proofs.T
open Go Go.Ab Go.RowKit

/-! ## The iterator over an expression and its kids -/

mutual
def nodesEx : Ex → List Ex
  | .mk k n t a c p => .mk k n t a c p :: nodesExs c
def nodesExs : List Ex → List Ex
  | [] => []
  | t :: r => nodesEx t ++ nodesExs r
end
theorem nodesEx_eq (e : Ex) : nodesEx e = e :: nodesExs e.kids := by cases e; rfl
theorem nodesExs_app : ∀ a b : List Ex, nodesExs (a ++ b) = nodesExs a ++ nodesExs b
  | [], b => rfl
  | x :: a, b => by simp [nodesExs, nodesExs_app a b]
theorem nodesExs_take (c : List Ex) (i : Nat) (h : i < c.length) : nodesExs (c.take (i + 1)) = nodesExs (c.take i) ++ nodesEx c[i] := by
  rw [List.take_add_one, List.getElem?_eq_getElem h, nodesExs_app]
  simp [nodesExs]
theorem nodesExs_get (c : List Ex) (i : Nat) (h : i < c.length) (j : Nat) (x : Ex) (hx : (nodesEx c[i])[j]? = some x) : (nodesExs c)[(nodesExs (c.take i)).length + j]? = some x := by
  have hj := (List.getElem?_eq_some_iff.1 hx).1
  have e : nodesExs c = (nodesExs (c.take i) ++ nodesEx c[i]) ++ nodesExs (c.drop (i + 1)) := by rw [← nodesExs_take c i h, ← nodesExs_app, List.take_append_drop]
  rw [e, List.getElem?_append_left (by simp; omega), List.getElem?_append_right (by omega)]
  simpa using hx

theorem yld_cells (n : Nm) : (D.yld n).cells = [.yld n] := rfl
theorem yld_one (n : Nm) : (D.yld n).one = true := rfl
attribute [go_sem] yld_cells yld_one
/-- The closure that visits a kid. -/
abbrev stopD (q : Nat) : D := .func (.func 111) [] [.ptr ⟨q, 3, 0⟩ 0]
/-- Beside the box that holds yield. -/
def bx (n : Nm) (q : Nat) (P : Sto → Prop) (τ : Sto) : Prop := ∃ τ0, τ = (⟨q, 3, 0⟩, .box 73 [.yld n]) :: τ0 ∧ P τ0 ∧ get τ0 ⟨q, 3, 0⟩ = none

set_option maxRecDepth 100000 in
theorem indexK_calls (c : List Ex) (hc : c.length ≤ 9223372036854775807) (q : Nat) (I : Nat → Sto → Prop) (h : ∀ i (hi : i < c.length), IC E 111 [encEx c[i], .ptr ⟨q, 3, 0⟩ 0] (I i) (I (i + 1)) (dB false)) :
    IC E 124 [slEx c, stopD q] (I 0) (I c.length) (dI (-1)) := by
  refine icalls_of_awp (fn := Tryz.f124) (N := 19) Tryz.call124 Tryz.func124 rfl rfl (by simp) (fun g d τ hτ => ?_)
  simp only [go_sem]
  refine awp_seq_k (fun K1 hK1 => ?_)
  refine awp_plain 1 (by kernel_rfl) rfl (fun g0 hg0 => ?_)
  simp only [go_sem]
  refine hK1 _ ?_
  refine awp_seq_k (fun K2 hK2 => ?_)
  refine awp_seq_k (fun K3 hK3 => ?_)
  refine awp_plain 3 (by kernel_rfl) rfl (fun g1 hg1 => ?_)
  simp only [go_sem]
  refine hK3 _ ?_
  refine awp_block ?_
  refine awp_loop (fun m s => ∃ k τ', k ≤ c.length ∧ m = c.length - k ∧ I k τ' ∧ LeT { env := [(0, slEx c), (1, stopD q), (7, dN c.length), (8, dN k)], σ := τ' } s) c.length ?_ ?_
  · refine ⟨0, τ, Nat.zero_le _, rfl, hτ, let_of rfl ?_⟩
    simp only [go_sem]
    trivial
  · rintro m s ⟨k, τ', hk, rfl, hI, hle⟩
    refine awp_keepT hle ?_
    clear hle
    by_cases hlt : k < c.length
    · refine awp_seq_k (fun K4 hK4 => ?_)
      refine awp_plain 1 (by kernel_rfl) rfl (fun g2 hg2 => ?_)
      simp only [go_sem, hlt]
      refine hK4 _ ?_
      refine awp_seq_k (fun K5 hK5 => ?_)
      refine awp_t rfl ?_
      refine awp_skip ?_
      refine hK5 _ ?_
      refine awp_seq_k (fun K6 hK6 => ?_)
      refine awp_block ?_
      refine awp_seq_k (fun K7 hK7 => ?_)
      refine awp_plain 2 (by kernel_rfl) rfl (fun g3 hg3 => ?_)
      simp only [go_sem]
      refine hK7 _ ?_
      refine awp_seq_k (fun K8 hK8 => ?_)
      refine awp_ops (by kernel_rfl) rfl (fun g4 hg4 ops4 KR4 hops4 hKR4 => ?_)
      refine aops_eval 5 hops4 ?_
      simp only [go_sem, getM hlt]
      refine aops_icall (own := []) (τ := τ') hops4 rfl rfl rfl (h k hlt) (CoL.refl _) rfl (fun p hp => nomatch hp) hI (fun τ2 hI2 _ => ?_)
      refine aops_last 0 hops4 ?_
      simp only [go_sem]
      refine hKR4 _ ?_
      refine hK8 _ ?_
      refine awp_f rfl ?_
      refine awp_skip ?_
      refine hK6 _ ?_
      refine awp_plain 2 (by kernel_rfl) rfl (fun g6 hg6 => ?_)
      simp only [go_sem]
      try simp (disch := omega) only [wrapN]
      refine ⟨_, ?_, k + 1, τ2, hlt, rfl, hI2, let_of rfl ?_⟩
      · omega
      simp only [go_sem]
      omega
    · have : k = c.length := by omega
      subst this
      refine awp_seq_k (fun K9 hK9 => ?_)
      refine awp_plain 1 (by kernel_rfl) rfl (fun g2 hg2 => ?_)
      simp only [go_sem, hlt]
      refine hK9 _ ?_
      refine awp_seq_k (fun K10 hK10 => ?_)
      refine awp_f rfl ?_
      refine awp_exit ?_
      refine hK2 _ ?_
      refine awp_seq_k (fun K11 hK11 => ?_)
      refine awp_plain 1 (by kernel_rfl) rfl (fun g7 hg7 => ?_)
      simp only [go_sem]
      refine hK11 _ ?_
      refine awp_ret ?_
      refine ends_tail (own := []) rfl rfl (by simp [go_sem]) (hI) ?_
      simp only [go_sem]
      exact Co.refl _
theorem containsK_calls (c : List Ex) (hc : c.length ≤ 9223372036854775807) (q : Nat) (I : Nat → Sto → Prop) (h : ∀ i (hi : i < c.length), IC E 111 [encEx c[i], .ptr ⟨q, 3, 0⟩ 0] (I i) (I (i + 1)) (dB false)) :
    IC E 112 [slEx c, stopD q] (I 0) (I c.length) (dB false) := by
  refine icalls_of_awp (fn := Tryz.f112) (N := 9) Tryz.call112 Tryz.func112 rfl rfl (by simp) (fun g d τ hτ => ?_)
  simp only [go_sem]
  refine awp_seq_k (fun K1 hK1 => ?_)
  refine awp_plain 1 (by kernel_rfl) rfl (fun g0 hg0 => ?_)
  simp only [go_sem]
  refine hK1 _ ?_
  refine awp_seq_k (fun K2 hK2 => ?_)
  refine awp_ops (by kernel_rfl) rfl (fun g1 hg1 ops1 KR1 hops1 hKR1 => ?_)
  refine aops_eval 2 hops1 ?_
  simp only [go_sem]
  refine aops_icall (own := []) (τ := τ) hops1 rfl rfl rfl (indexK_calls c hc q I h) (CoL.refl _) rfl (fun p hp => nomatch hp) hτ (fun τ2 hI2 _ => ?_)
  refine aops_last 2 hops1 ?_
  simp only [go_sem]
  refine hKR1 _ ?_
  refine hK2 _ ?_
  refine awp_ret ?_
  refine ends_tail (own := []) rfl rfl (by simp [go_sem]) (hI2) ?_
  simp only [go_sem]
  exact Co.of_eq rfl
theorem stop_calls (e : Ex) (n : Nm) (q : Nat) (Pre Post : Sto → Prop) (h : IC E 92 [encEx e, .yld n] Pre Post (dB true)) :
    IC E 111 [encEx e, .ptr ⟨q, 3, 0⟩ 0] (bx n q Pre) (bx n q Post) (dB false) := by
  refine icalls_of_awp (fn := Tryz.f111) (N := 8) Tryz.call111 Tryz.func111 rfl rfl (by simp) (fun g d τ hτ => ?_)
  simp only [go_sem]
  refine awp_seq_k (fun K1 hK1 => ?_)
  obtain ⟨τ0, rfl, hP, hq⟩ := hτ
  refine awp_plain 2 (by kernel_rfl) rfl (fun g0 hg0 => ?_)
  simp only [go_sem]
  refine hK1 _ ?_
  refine awp_seq_k (fun K2 hK2 => ?_)
  refine awp_ops (by kernel_rfl) rfl (fun g1 hg1 ops1 KR1 hops1 hKR1 => ?_)
  refine aops_eval 2 hops1 ?_
  simp only [go_sem]
  have hf : get τ0 ⟨g0, 2, 0⟩ = none := by simpa [go_sem] using hg0 2 0
  refine aops_icall (own := [_, _]) (τ := τ0) hops1 rfl rfl rfl h (CoL.refl _) rfl (fun p hp => ?_) hP (fun τ2 hP2 hX => ?_)
  · rcases List.mem_cons.1 hp with rfl | hp
    · exact hf
    · rw [List.mem_singleton.1 hp]; exact hq
  refine aops_last 2 hops1 ?_
  simp only [go_sem]
  refine hKR1 _ ?_
  refine hK2 _ ?_
  refine awp_ret ?_
  have h2 := hX _ List.mem_cons_self
  have h3 := hX _ (List.mem_cons_of_mem _ List.mem_cons_self)
  refine ends_tail (own := [_]) rfl rfl (fun p hp => ?_) ⟨τ2, rfl, hP2, h3⟩ ?_
  · rw [List.mem_singleton.1 hp]
    simpa [go_sem] using h2
  simp only [go_sem]
  exact Co.of_eq rfl
end Go.Proofs.T


namespace Go.Proofs.T
open Go Go.Ab Go.RowKit

/-- How many nodes there are at a kid. -/
def offK (c : List Ex) (i : Nat) : Nat := 1 + (nodesExs (c.take i)).length

set_option maxRecDepth 100000 in
theorem visit_calls (n : Nm) : ∀ (e : Ex), okEx e → ∀ I : Nat → Sto → Prop, (∀ j x, (nodesEx e)[j]? = some x → YC E n (encEx x) (I j) (I (j + 1))) → IC E 92 [encEx e, .yld n] (I 0) (I (nodesEx e).length) (dB true) := by
  intro e
  induction e using Ex.ind with
  | h e ih =>
  intro hok I hY
  obtain ⟨o1, o2, o3, o4, o5⟩ := (okEx_iff e).1 hok
  have hne := nodesEx_eq e
  refine icalls_of_awp (fn := Tryz.f92) (N := 16) Tryz.call92 Tryz.func92 rfl rfl (by simp) (fun g d τ hτ => ?_)
  simp only [go_sem]
  refine awp_seq_k (fun K1 hK1 => ?_)
  refine awp_plain 3 (by kernel_rfl) rfl (fun g0 hg0 => ?_)
  simp only [go_sem]
  refine hK1 _ ?_
  refine awp_seq_k (fun K2 hK2 => ?_)
  refine awp_seq_k (fun K3 hK3 => ?_)
  have hf2 : get τ ⟨g0, 2, 0⟩ = none := by simpa [go_sem] using hg0 2 0
  have hf3 : get τ ⟨g0, 3, 0⟩ = none := by simpa [go_sem] using hg0 3 0
  refine awp_ops (by kernel_rfl) rfl (fun g1 hg1 ops1 KR1 hops1 hKR1 => ?_)
  refine aops_eval 2 hops1 ?_
  simp only [go_sem]
  refine aops_yield (own := [_, _]) (τ := τ) hops1 rfl rfl rfl rfl rfl rfl (hY 0 e (by rw [hne]; rfl)) (Co.refl _) rfl (fun p hp => ?_) hτ (fun τ2 hI2 hX => ?_)
  · rcases List.mem_cons.1 hp with rfl | hp
    · exact hf3
    · rw [List.mem_singleton.1 hp]; exact hf2
  refine aops_last 1 hops1 ?_
  simp only [go_sem]
  refine hKR1 _ ?_
  refine hK3 _ ?_
  refine awp_f rfl ?_
  refine awp_skip ?_
  refine hK2 _ ?_
  refine awp_seq_k (fun K4 hK4 => ?_)
  have h3 := hX _ List.mem_cons_self
  have h2 := hX _ (List.mem_cons_of_mem _ List.mem_cons_self)
  clear hX
  refine awp_keepT (st' := { env := [(2, .ptr ⟨g0, 2, 0⟩ 0), (3, .ptr ⟨g0, 3, 0⟩ 0)], σ := (⟨g0, 2, 0⟩, .box 28 (exC e)) :: (⟨g0, 3, 0⟩, .box 73 [.yld n]) :: τ2 }) ⟨leE_spec ?_, ?_⟩ ?_
  · simp only [go_sem]
    try trivial
  · intro m o hm
    simp only [Ab.get] at hm ⊢
    by_cases a : (⟨g0, 2, 0⟩ : Nm) = m
    · have b : ¬ (⟨g0, 3, 0⟩ : Nm) = m := by rw [← a]; simp
      rw [if_pos a] at hm
      rw [if_neg b, if_pos a]
      exact hm
    · rw [if_neg a] at hm
      by_cases b : (⟨g0, 3, 0⟩ : Nm) = m
      · rw [if_pos b] at hm ⊢
        exact hm
      · rw [if_neg b] at hm
        rw [if_neg b, if_neg a]
        exact hm
  refine awp_plain 2 (by kernel_rfl) rfl (fun g3 hg3 => ?_)
  simp only [go_sem]
  refine hK4 _ ?_
  refine awp_seq_k (fun K5 hK5 => ?_)
  refine awp_ops (by kernel_rfl) rfl (fun g4 hg4 ops4 KR4 hops4 hKR4 => ?_)
  refine aops_eval 3 hops4 ?_
  simp only [go_sem]
  refine aops_icall (own := [_]) (τ := (⟨g0, 3, 0⟩, .box 73 [.yld n]) :: τ2) hops4 rfl rfl rfl (containsK_calls e.kids o4 g0 (fun i => bx n g0 (I (offK e.kids i))) (fun i hi => ?_)) (CoL.refl _) rfl (fun p hp => ?_) ⟨τ2, rfl, hI2, h3⟩ (fun τ3 hI3 hX => ?_)
  · refine stop_calls _ n g0 _ _ ?_
    have hlen : offK e.kids (i + 1) = offK e.kids i + (nodesEx e.kids[i]).length := by
      unfold offK
      rw [nodesExs_take e.kids i hi, List.length_append]
      omega
    rw [hlen]
    refine ih _ (List.getElem_mem hi) (o5 _ (List.getElem_mem hi)) (fun j => I (offK e.kids i + j)) (fun j x hx => ?_)
    have := hY (offK e.kids i + j) x (by
      rw [hne]
      have := nodesExs_get e.kids i hi j x hx
      have e1 : offK e.kids i + j = ((nodesExs (e.kids.take i)).length + j) + 1 := by unfold offK; omega
      rw [e1, List.getElem?_cons_succ]
      exact this)
    exact this
  · rw [List.mem_singleton.1 hp]
    simpa [go_sem] using h2
  refine aops_last 2 hops4 ?_
  simp only [go_sem]
  refine hKR4 _ ?_
  refine hK5 _ ?_
  refine awp_ret ?_
  obtain ⟨τ4, rfl, hI4, h4⟩ := hI3
  have h5 := hX _ List.mem_cons_self
  have hlast : offK e.kids e.kids.length = (nodesEx e).length := by
    unfold offK
    rw [List.take_length, hne]
    simp
    omega
  rw [hlast] at hI4
  refine ends_tail (own := [_, _]) (τ := τ4) rfl rfl (fun p hp => ?_) hI4 ?_
  · rcases List.mem_cons.1 hp with rfl | hp
    · simpa [go_sem] using h5
    · rw [List.mem_singleton.1 hp]; exact h4
  simp only [go_sem]
  exact Co.of_eq rfl

theorem all1_calls (e : Ex) (h : okEx e) (n : Nm) (I : Nat → Sto → Prop) (hY : ∀ k (hk : k < ((nodesEx e).map encEx).length), YC E n ((nodesEx e).map encEx)[k] (I k) (I (k + 1))) :
    IC E 91 [.yld n, .eptr (exC e)] (I 0) (I ((nodesEx e).map encEx).length) (.tup []) := by
  have hY' : ∀ j x, (nodesEx e)[j]? = some x → YC E n (encEx x) (I j) (I (j + 1)) := fun j x hx => by
    have hj := (List.getElem?_eq_some_iff.1 hx).1
    have := hY j (by simpa using hj)
    have e1 : (nodesEx e)[j] = x := (List.getElem?_eq_some_iff.1 hx).2
    simpa [e1] using this
  refine icalls_of_awp (fn := Tryz.f91) (N := 6) Tryz.call91 Tryz.func91 rfl rfl (by simp) (fun g d τ hτ => ?_)
  simp only [go_sem]
  refine awp_ops (by kernel_rfl) rfl (fun g0 hg0 ops0 KR0 hops0 hKR0 => ?_)
  refine aops_eval 2 hops0 ?_
  simp only [go_sem]
  refine aops_icall (own := []) (τ := τ) hops0 rfl rfl rfl (visit_calls n e h I hY') (CoL.refl _) rfl (fun p hp => nomatch hp) hτ (fun τ2 hI2 _ => ?_)
  refine aops_last 0 hops0 ?_
  simp only [go_sem]
  refine hKR0 _ ?_
  refine ends_tail (own := []) rfl rfl (by simp [go_sem]) (hI2) ?_
  simp only [go_sem]
  exact Co.refl _
theorem allX_calls (e : Ex) (g d : Nat) : ACalls E 68 [encEx e] [] g d (.func (.func 91) [] [.eptr (exC e)]) [] := by
  refine acalls_of_awp (fn := Tryz.f68) (N := 4) Tryz.call68 Tryz.func68 rfl rfl (by simp) ?_
  simp only [go_sem]
  refine awp_seq_k (fun K1 hK1 => ?_)
  refine awp_plain 2 (by kernel_rfl) rfl (fun g0 hg0 => ?_)
  simp only [go_sem]
  refine hK1 _ ?_
  refine awp_seq_k (fun K2 hK2 => ?_)
  refine awp_still ⟨g0, 1, 0⟩ ?_
  simp only [go_sem]
  refine awp_plain 2 (by kernel_rfl) rfl (fun g1 hg1 => ?_)
  simp only [go_sem]
  refine hK2 _ ?_
  refine awp_ret ?_
  refine ends_ev rfl ?_
  simp only [go_sem]
  exact Co.refl _
end Go.Proofs.T


namespace Go.Proofs.T
open Go Go.Ab Go.RowKit

/-! ## The nodes of a program -/

theorem okRowsSig : ∀ l : List Sig, okRows 7 (l.map encSi) := fun l => okRows_map 7 encSi l fun _ => ⟨rfl, rfl⟩
theorem cloneSg_calls (l : List Sig) (hl : l.length ≤ 1000000) (g d : Nat) : ACalls E 38 [slSi l] [] g d (.own ⟨g, d, 1⟩ l.length) [(⟨g, d, 1⟩, .arr 40 7 (l.map encSi))] := by
  cases l with
  | nil =>
    refine acalls_of_awp (fn := Tryz.f38) (N := 8) Tryz.call38 Tryz.func38 rfl rfl (by simp) ?_
    simp only [go_sem]
    refine awp_seq_k (fun K1 hK1 => ?_)
    refine awp_plain 1 (by kernel_rfl) rfl (fun g0 hg0 => ?_)
    simp only [go_sem]
    refine hK1 _ ?_
    refine awp_seq_k (fun K2 hK2 => ?_)
    refine awp_seq_k (fun K3 hK3 => ?_)
    refine awp_plain 2 (by kernel_rfl) rfl (fun g1 hg1 => ?_)
    simp only [go_sem]
    refine hK3 _ ?_
    refine awp_unk rfl ?_ ?_
    · refine awp_seq_k (fun K4 hK4 => ?_)
      refine awp_plain 1 (by kernel_rfl) rfl (fun g2 hg2 => ?_)
      simp only [go_sem]
      refine hK4 _ ?_
      refine awp_ret ?_
      refine ret_nil 2 40 7 rfl fun gz hgz => ?_
      refine ends_own [⟨gz, 0, 0⟩] rfl ?_
      simp only [go_sem, newSto]
      exact Co.refl _
    · refine awp_skip ?_
      refine hK2 _ ?_
      refine awp_seq_k (fun K5 hK5 => ?_)
      refine awp_ops (by kernel_rfl) rfl (fun g3 hg3 ops3 KR3 hops3 hKR3 => ?_)
      refine aops_eval 2 hops3 ?_
      simp only [go_sem]
      refine aops_app hops3 rfl rfl rfl rfl rfl es37 sz40 by40 ze40 rfl (by decide) ?_
      simp only [go_sem, List.length_nil]
      first | refine ⟨⟨by omega, by omega⟩, ?_⟩ | skip
      refine aops_last 1 hops3 ?_
      simp only [go_sem]
      refine hKR3 _ ?_
      refine hK5 _ ?_
      refine awp_ret ?_
      refine ends_own [⟨g3, 7, 0⟩] rfl ?_
      simp only [go_sem, newSto]
      exact Co.refl _
  | cons a l =>
    simp only [List.length_cons] at hl
    refine acalls_of_awp (fn := Tryz.f38) (N := 8) Tryz.call38 Tryz.func38 rfl rfl (by simp) ?_
    simp only [go_sem]
    refine awp_seq_k (fun K1 hK1 => ?_)
    refine awp_plain 1 (by kernel_rfl) rfl (fun g0 hg0 => ?_)
    simp only [go_sem]
    refine hK1 _ ?_
    refine awp_seq_k (fun K2 hK2 => ?_)
    refine awp_seq_k (fun K3 hK3 => ?_)
    refine awp_plain 2 (by kernel_rfl) rfl (fun g1 hg1 => ?_)
    simp only [go_sem]
    refine hK3 _ ?_
    refine awp_f rfl ?_
    refine awp_skip ?_
    refine hK2 _ ?_
    refine awp_seq_k (fun K4 hK4 => ?_)
    refine awp_ops (by kernel_rfl) rfl (fun g3 hg3 ops3 KR3 hops3 hKR3 => ?_)
    refine aops_eval 2 hops3 ?_
    simp only [go_sem]
    refine aops_app hops3 rfl rfl rfl rfl rfl es37 sz40 by40 ze40 rfl (by decide) ?_
    simp only [go_sem, List.length_map, okRowsSig, List.length_cons, List.length_nil, Nat.zero_add, List.nil_append]
    first | refine ⟨⟨by omega, by omega⟩, ?_⟩ | skip
    refine aops_last 1 hops3 ?_
    simp only [go_sem, List.nil_append]
    refine hKR3 _ ?_
    refine hK4 _ ?_
    refine awp_ret ?_
    refine ends_own [⟨g3, 7, 0⟩] rfl ?_
    simp only [go_sem, newSto]
    exact Co.refl _

/-- The nodes of some formals. -/
def ndF (b : Bool) (s : Str) (n : Nat) : List Nd := (List.range n).map fun i : Nat => ⟨b, s, (i : Int)⟩
theorem ndF_succ (b : Bool) (s : Str) (n : Nat) : ndF b s (n + 1) = ndF b s n ++ [⟨b, s, (n : Int)⟩] := by unfold ndF; rw [List.range_succ, List.map_append]; rfl
theorem ndF_len (b : Bool) (s : Str) (n : Nat) : (ndF b s n).length = n := by simp [ndF]
theorem ndF_mem (b : Bool) (s : Str) (n : Nat) (x : Nd) : x ∈ ndF b s n ↔ ∃ i, i < n ∧ x = ⟨b, s, (i : Int)⟩ := by
  unfold ndF
  simp only [List.mem_map, List.mem_range]
  constructor
  · rintro ⟨i, h, rfl⟩
    exact ⟨i, h, rfl⟩
  · rintro ⟨i, h, rfl⟩
    exact ⟨i, h, rfl⟩
def siN (s : Sig) : List Nd := ndF true s.name s.formals.length
def ndD (d : Dec) : List Nd := ndF false d.name d.formals.length ++ (d.sigs ++ [d.sig]).flatMap siN
def ndP (p : Prg) : List Nd := p.decls.flatMap ndD
/-- The variable that holds the nodes, and their array. -/
def ndS (q : Nat) (R : List Nd) (τ : Sto) : Prop := ∃ a i, a ≠ q ∧ τ = [(⟨q, 3, 0⟩, .box 52 [.own ⟨a, i, 0⟩ R.length]), (⟨a, i, 0⟩, .arr 55 3 (R.map encNd))]

set_option maxRecDepth 100000 in
theorem nodes1_calls (b : Bool) (s : Str) (l : List Formal) (q : Nat) (R : List Nd) (hl : R.length + l.length ≤ 1000000) :
    IC E 37 [dB b, encS s, slFm l, .ptr ⟨q, 3, 0⟩ 0] (ndS q R) (ndS q (R ++ ndF b s l.length)) (.tup []) := by
  refine icalls_of_awp (fn := Tryz.f37) (N := 21) Tryz.call37 Tryz.func37 rfl rfl (by simp) (fun g d τ hτ => ?_)
  simp only [go_sem]
  refine awp_seq_k (fun K1 hK1 => ?_)
  obtain ⟨a, i, ha, rfl⟩ := hτ
  refine awp_plain 3 (by kernel_rfl) rfl (fun g0 hg0 => ?_)
  simp only [go_sem]
  refine hK1 _ ?_
  refine awp_block ?_
  refine awp_loop (fun m st => ∃ k a i, k ≤ l.length ∧ m = l.length - k ∧ a ≠ q ∧ LeT { env := [(0, dB b), (1, encS s), (3, .ptr ⟨q, 3, 0⟩ 0), (8, slFm l), (9, dN l.length), (10, dN k)], σ := [(⟨q, 3, 0⟩, .box 52 [.own ⟨a, i, 0⟩ (R ++ ndF b s k).length]), (⟨a, i, 0⟩, .arr 55 3 ((R ++ ndF b s k).map encNd))] } st) l.length ?_ ?_
  · refine ⟨0, a, i, Nat.zero_le _, rfl, ha, let_of (by simp [ndF]) ?_⟩
    simp only [go_sem]
    all_goals first | exact rfl | exact ⟨rfl, rfl⟩ | trivial
  · rintro m st ⟨k, a, i, hk, rfl, ha, hle⟩
    refine awp_keepT hle ?_
    clear hle
    have hkl := ndF_len b s k
    refine awp_seq_k (fun K2 hK2 => ?_)
    by_cases hlt : k < l.length
    · refine awp_plain 1 (by kernel_rfl) rfl (fun g1 hg1 => ?_)
      simp only [go_sem, hlt]
      refine hK2 _ ?_
      refine awp_seq_k (fun K3 hK3 => ?_)
      refine awp_t rfl ?_
      refine awp_skip ?_
      refine hK3 _ ?_
      refine awp_seq_k (fun K4 hK4 => ?_)
      refine awp_block ?_
      refine awp_seq_k (fun K5 hK5 => ?_)
      refine awp_plain 2 (by kernel_rfl) rfl (fun g2 hg2 => ?_)
      simp only [go_sem]
      refine hK5 _ ?_
      refine awp_ops (by kernel_rfl) rfl (fun g3 hg3 ops3 KR3 hops3 hKR3 => ?_)
      refine aops_eval 6 hops3 ?_
      simp only [go_sem, ha]
      refine aops_app hops3 rfl rfl rfl rfl rfl es52 sz55 by55 ze55 rfl (by decide) ?_
      simp only [go_sem, Ne.symm ha]
      first | refine ⟨⟨by omega, by omega⟩, ?_⟩ | skip
      have hn3_q : g3 ≠ q := fresh_g hg3 3 0 (by simp [go_sem])
      refine aops_last 1 hops3 ?_
      simp only [go_sem, hn3_q]
      refine hKR3 _ ?_
      refine hK4 _ ?_
      refine awp_plain 2 (by kernel_rfl) rfl (fun g4 hg4 => ?_)
      simp only [go_sem]
      try simp (disch := omega) only [wrapN]
      refine ⟨_, ?_, k + 1, g3, 19, hlt, rfl, hn3_q, ⟨leE_spec ?_, subT_of ?_⟩⟩
      · omega
      · simp only [go_sem]
        all_goals first | done | exact rfl | exact ⟨rfl, rfl⟩ | trivial | omega
      · simp only [go_sem, ndF_succ, List.map_append, List.length_append, ← List.append_assoc, hn3_q, Ne.symm hn3_q]
        all_goals first | done | exact rfl | exact ⟨rfl, rfl⟩ | trivial | omega
    · have : k = l.length := by omega
      subst this
      refine awp_plain 1 (by kernel_rfl) rfl (fun g1 hg1 => ?_)
      simp only [go_sem, hlt]
      refine hK2 _ ?_
      refine awp_seq_k (fun K6 hK6 => ?_)
      refine awp_f rfl ?_
      refine awp_exit ?_
      refine ends_tail (own := []) rfl rfl (by simp [go_sem]) (⟨a, i, ha, by rw [List.length_append, List.map_append]⟩) ?_
      simp only [go_sem]
      exact Co.refl _
end Go.Proofs.T

