/- A part of the proof, under no conditions of its own: B4. -/
import Derived.Test.YtjhencaobpihnaaDoorB3
namespace Go.Proofs.T
open Go Go.Ab Go.RowKit

/-! ## What is counted as small is small -/

theorem cntEx_sm : ∀ (e : Ex) (n : Nat), countEx e n ≤ 2000 → smEx e := by
  refine Ex.ind fun e ih n h => ?_
  have h1 := count_ge e.type (n + e.name.size / 50)
  have h2 := cnt_ge (f := count) (fun t m => by have := count_ge t m; omega) e.targs (count e.type (n + e.name.size / 50))
  rw [countEx_eq] at h
  obtain ⟨k1, k2⟩ := cnt_small countEx_ge e.kids _ h
  obtain ⟨k3, k4⟩ := cntTys_sm e.targs (count e.type (n + e.name.size / 50)) (by omega)
  have k5 := count_sm e.type (n + e.name.size / 50) (by omega)
  refine (smEx_iff e).2 ⟨by omega, k5, ⟨by omega, k4⟩, by omega, fun x hx => ?_⟩
  obtain ⟨m, hm⟩ := k2 x hx
  exact ih x hx m (by omega)

theorem cntS_ge (v : Str) (n : Nat) : n + 1 ≤ cntS v n := by unfold cntS; omega

theorem cntDe_sm (d : Dec) (n : Nat) (h : cntDe d n ≤ 2000) : smDe d := by
  have g1 := cnt_ge (fun a n => Nat.le_trans (Nat.le_succ n) (cntFm_ge a n)) d.formals (n + 1 + d.name.size / 50 + d.recv.size / 50)
  have g2 := cnt_ge (fun a n => Nat.le_trans (Nat.le_succ n) (cntPa_ge a n)) d.fields (cnt cntFm d.formals (n + 1 + d.name.size / 50 + d.recv.size / 50))
  have g3 := cnt_ge (fun a n => Nat.le_trans (Nat.le_succ n) (cntSi_ge a n)) d.sigs (cntHead d n)
  have g4 := cnt_ge (fun a n => Nat.le_trans (Nat.le_succ n) (cntS_ge a n)) d.vars (cnt cntSi d.sigs (cntHead d n))
  have g5 := cntSi_ge d.sig (cnt cntS d.vars (cnt cntSi d.sigs (cntHead d n)))
  have g6 := countEx_ge d.body (cntSi d.sig (cnt cntS d.vars (cnt cntSi d.sigs (cntHead d n))))
  have e0 : cntHead d n = cnt cntPa d.fields (cnt cntFm d.formals (n + 1 + d.name.size / 50 + d.recv.size / 50)) := rfl
  unfold cntDe cntTail at h
  split at h
  · have a1 := cntFms_sm d.formals (n + 1 + d.name.size / 50 + d.recv.size / 50) (by omega)
    have a2 := cntPas_sm d.fields (cnt cntFm d.formals (n + 1 + d.name.size / 50 + d.recv.size / 50)) (by omega)
    obtain ⟨a3, a4⟩ := cnt_small cntSi_ge d.sigs (cntHead d n) (by omega)
    obtain ⟨a5, a6⟩ := cnt_small cntS_ge d.vars (cnt cntSi d.sigs (cntHead d n)) (by omega)
    have a7 := cntSi_sm d.sig (cnt cntS d.vars (cnt cntSi d.sigs (cntHead d n))) (by omega)
    have a8 := cntEx_sm d.body (cntSi d.sig (cnt cntS d.vars (cnt cntSi d.sigs (cntHead d n)))) (by omega)
    refine ⟨by omega, ⟨by omega, a1.2⟩, ⟨by omega, a2.2⟩, ⟨by omega, fun s hs => ?_⟩, by omega, ⟨by omega, fun v hv => ?_⟩, a7.1, a8⟩
    · obtain ⟨m, hm⟩ := a4 s hs
      exact (cntSi_sm s m (by omega)).1
    · obtain ⟨m, hm⟩ := a6 v hv
      have e1 : cntS v m = m + 1 + v.size / 50 := rfl
      omega
  · omega

theorem cntDe_ge (d : Dec) (n : Nat) : n + 1 ≤ cntDe d n := by
  have g1 := cnt_ge (fun a n => Nat.le_trans (Nat.le_succ n) (cntFm_ge a n)) d.formals (n + 1 + d.name.size / 50 + d.recv.size / 50)
  have g2 := cnt_ge (fun a n => Nat.le_trans (Nat.le_succ n) (cntPa_ge a n)) d.fields (cnt cntFm d.formals (n + 1 + d.name.size / 50 + d.recv.size / 50))
  have g3 := cnt_ge (fun a n => Nat.le_trans (Nat.le_succ n) (cntSi_ge a n)) d.sigs (cntHead d n)
  have g4 := cnt_ge (fun a n => Nat.le_trans (Nat.le_succ n) (cntS_ge a n)) d.vars (cnt cntSi d.sigs (cntHead d n))
  have g5 := cntSi_ge d.sig (cnt cntS d.vars (cnt cntSi d.sigs (cntHead d n)))
  have g6 := countEx_ge d.body (cntSi d.sig (cnt cntS d.vars (cnt cntSi d.sigs (cntHead d n))))
  have e0 : cntHead d n = cnt cntPa d.fields (cnt cntFm d.formals (n + 1 + d.name.size / 50 + d.recv.size / 50)) := rfl
  unfold cntDe cntTail
  split <;> omega

theorem cntPr_sm (p : Prg) (h : cntPr p ≤ 600) : smPr p ∧ p.decls.length ≤ 600 := by
  unfold cntPr at h
  have g1 := countEx_ge p.main 0
  have g2 := cnt_ge (fun a n => Nat.le_trans (Nat.le_succ n) (cntDe_ge a n)) p.decls (countEx p.main 0)
  obtain ⟨a1, a2⟩ := cnt_small cntDe_ge p.decls (countEx p.main 0) (by omega)
  refine ⟨⟨⟨by omega, fun d hd => ?_⟩, cntEx_sm p.main 0 (by omega)⟩, by omega⟩
  obtain ⟨m, hm⟩ := a2 d hd
  exact cntDe_sm d m (by omega)
end Go.Proofs.T

