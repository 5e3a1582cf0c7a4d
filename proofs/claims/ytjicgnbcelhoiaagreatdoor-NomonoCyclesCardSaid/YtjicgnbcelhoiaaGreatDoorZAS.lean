/- A part of the proof, under no conditions of its own: ZAS. -/
import Derived.Test.YtjicgnbcelhoiaaGreatDoorZAR
import Derived.Test.YtjicgnbcelhoiaaGreatDoorZAL
import Derived.Test.YtjicgnbcelhoiaaGreatDoorZAK
import Derived.Test.YtjicgnbcelhoiaaGreatDoorZAH
import Derived.Test.YtjicgnbcelhoiaaGreatDoorZAF
import Derived.Scope
namespace Go.Proofs.T
open Go Go.Ab Go.RowKit
section
variable {s s' : Sc} (h : ∀ v, lookS s v = lookS s' v)
include h
theorem hdE_congr (to : Nd) (t : Ty) (ins : Bool) : hdE s to t ins = hdE s' to t ins := by
 unfold hdE
 rw [h]
theorem inE_congr (to : Nd) : ∀ (t : Ty) (ins : Bool), inE s to t ins = inE s' to t ins := by
 refine Ty.ind fun t ih ins => ?_
 rw [inE_eq, inE_eq, hdE_congr h]
 congr 1
 have : ∀ l : List Ty, (∀ x ∈ l, ∀ ins, inE s to x ins = inE s' to x ins) → (l.flatMap fun t => inE s to t true) = l.flatMap fun t => inE s' to t true := by
  intro l
  induction l with
  | nil => intro _; rfl
  | cons x r ihr =>
   intro hl
   rw [List.flatMap_cons, List.flatMap_cons, hl x List.mem_cons_self, ihr fun y hy => hl y (List.mem_cons_of_mem _ hy)]
 exact this t.args ih
theorem argsE_congrV : ∀ (l : List Ty), (∀ x ∈ l, visE s x = visE s' x) → ∀ (b : Bool) (o : Str) (i : Nat), argsE s l b o i = argsE s' l b o i
 | [], _, _, _, _ => by simp [argsE]
 | x :: r, hl, b, o, i => by
  simp only [argsE]
  rw [inE_congr h, hl x List.mem_cons_self, argsE_congrV r (fun y hy => hl y (List.mem_cons_of_mem _ hy))]
theorem visE_congr : ∀ t : Ty, visE s t = visE s' t := by
 refine Ty.ind fun t ih => ?_
 rw [visE_eq, visE_eq]
 exact argsE_congrV h t.args ih _ _ _
theorem argsE_congr (l : List Ty) (b : Bool) (o : Str) (i : Nat) : argsE s l b o i = argsE s' l b o i := argsE_congrV h l (fun x _ => visE_congr h x) b o i
theorem siE_congr (x : Sig) : siE s x = siE s' x := by
 have hv : visE s = visE s' := funext (visE_congr h)
 unfold siE
 rw [hv]
theorem exE_congr (x : Ex) : exE s x = exE s' x := by
 unfold exE
 rw [visE_congr h, argsE_congr h]
end
theorem look_put0 (b : Bool) (o : Str) (ns : List Str) (v : Str) : lookS (putS2 [] b o ns) v = lookS (scN b o ns) v := by
 unfold putS2
 rw [lookS_adds, List.nil_append]
theorem look_put {s s' : Sc} (h : ∀ v, lookS s v = lookS s' v) (b : Bool) (o : Str) (ns : List Str) (v : Str) : lookS (putS2 s b o ns) v = lookS (s' ++ scN b o ns) v := by
 unfold putS2
 rw [lookS_adds, lookS_app, lookS_app, h]
theorem visE_zero (s : Sc) : visE s zeroTy = [] := by
 rw [visE_eq]
 rfl
theorem rightNodes : ∀ e : Ex, rightEx e = true → ∀ x ∈ nodesEx e, rightEx x = true := by
 refine Ex.ind fun e ih he x hx => ?_
 rw [nodesEx_eq] at hx
 rcases List.mem_cons.1 hx with rfl | hx
 ·exact he
 ·rw [nodesExs_flat] at hx
  obtain ⟨y, hy, hx⟩ := List.mem_flatMap.1 hx
  rw [rightEx_eq, Bool.and_eq_true] at he
  exact ih y hy (List.all_eq_true.1 he.1 y hy) x hx
theorem right_targs {x : Ex} (h : rightEx x = true) (hk : x.kind ≠ 2) : x.targs = [] := by
 rw [rightEx_eq, Bool.and_eq_true] at h
 have h2 := h.2
 unfold headOk at h2
 rw [Bool.and_eq_true] at h2
 have h3 := List.all_eq_true.1 h2.1
 match ht : x.targs with
 | [] => rfl
 | t :: r =>
  rw [ht] at h3
  have := h3 t List.mem_cons_self
  rw [Bool.and_eq_true] at this
  exact absurd (of_decide_eq_true this.1) hk
theorem right_body {d : Dec} (h : rightDe d = true) (h3 : d.kind = 3) : rightEx d.body = true := by
 unfold rightDe at h
 simp only [Bool.and_eq_true] at h
 have ht := h.2.2.2.2.2
 unfold tailDe at ht
 rw [if_pos h3] at ht
 unfold methDe at ht
 simp only [Bool.and_eq_true] at ht
 exact ht.2.2.2
theorem rdE_eq {d : Dec} (h : rightDe d = true) : rdE d = deE d := by
 unfold rdE deE
 by_cases h3 : d.kind = 3
 ·rw [if_pos h3, if_pos h3]
  unfold rmE dmE
  have hl : ∀ v, lookS (rmS d) v = lookS (dmS d) v := fun v => by
   unfold rmS dmS fmS fmN
   exact (look_put (look_put0 false d.name d.vars) true d.sig.name (d.sig.formals.map fun f : Formal => f.name) v).symm
  rw [siE_congr hl]
  congr 1
  have hb := rightNodes d.body (right_body h h3)
  have : ∀ l : List Ex, (∀ x ∈ l, rightEx x = true) → l.flatMap (rxE (rmS d)) = l.flatMap (exE (dmS d)) := by
   intro l
   induction l with
   | nil => intro _; rfl
   | cons x r ih =>
    intro hr
    rw [List.flatMap_cons, List.flatMap_cons, ih fun y hy => hr y (List.mem_cons_of_mem _ hy), ← exE_congr hl]
    congr 1
    unfold rxE exE
    by_cases hk : x.kind = 2
    ·rw [if_pos hk]
    ·rw [if_neg hk, right_targs (hr x List.mem_cons_self) hk]
     simp [argsE]
  exact this _ hb
 ·rw [if_neg h3, if_neg h3]
  unfold rsE dsE
  have hl : ∀ v, lookS (fmN false d.name d.formals) v = lookS (fmS [] false d.name d.formals) v := fun v => (look_put0 false d.name _ v).symm
  have hv := funext (visE_congr hl)
  have hsg : (fun x : Sig => siE (fmN false d.name d.formals ++ fmN true x.name x.formals) x) = fun x => siE (fmS (fmS [] false d.name d.formals) true x.name x.formals) x := by
   funext x
   exact siE_congr (fun v => (look_put (fun v => (hl v).symm) true x.name (x.formals.map (·.name)) v).symm) x
  rw [hsg]
  congr 1
  unfold siE
  simp only [visE_zero, List.append_nil]
  rw [hv]
theorem rpE_eq {p : Prg} (h : rightPr p = true) : rpE p = prE p := by
 unfold rightPr at h
 rw [Bool.and_eq_true] at h
 have hr := List.all_eq_true.1 h.1
 unfold rpE prE
 generalize p.decls = l at *
 clear h
 induction l with
 | nil => rfl
 | cons x r ih => rw [List.flatMap_cons, List.flatMap_cons, rdE_eq (hr x List.mem_cons_self), ih fun y hy => hr y (List.mem_cons_of_mem _ hy)]
theorem hdE_len (s : Sc) (to : Nd) (t : Ty) (ins : Bool) : (hdE s to t ins).length ≤ 1 := by
 unfold hdE
 split
 ·split <;> simp
 ·simp
theorem inE_len (s : Sc) (to : Nd) : ∀ (t : Ty) (ins : Bool), (inE s to t ins).length ≤ (namesTy t).length := by
 refine Ty.ind fun t ih ins => ?_
 have h1 := hdE_len s to t ins
 have : ∀ l : List Ty, (∀ x ∈ l, ∀ ins, (inE s to x ins).length ≤ (namesTy x).length) → (l.flatMap fun t => inE s to t true).length ≤ wN l := by
  intro l
  induction l with
  | nil => intro _; simp
  | cons x r ihr =>
   intro hl
   have := hl x List.mem_cons_self true
   have := ihr fun y hy => hl y (List.mem_cons_of_mem _ hy)
   rw [List.flatMap_cons, List.length_append, wN_cons]
   omega
 have := this t.args ih
 rw [inE_eq, List.length_append, namesTy_eq, List.length_cons]
 unfold wN at this
 omega
theorem argsE_cnt (s : Sc) (M : Nat) : ∀ (l : List Ty), (∀ x ∈ l, (visE s x).length ≤ (namesTy x).length * M) → ∀ (b : Bool) (o : Str) (i : Nat), (argsE s l b o i).length ≤ wN l * (M + 1)
 | [], _, _, _, _ => by simp [argsE]
 | x :: r, hl, b, o, i => by
  have h1 := hl x List.mem_cons_self
  have h2 := argsE_cnt s M r (fun y hy => hl y (List.mem_cons_of_mem _ hy)) b o (i + 1)
  have h3 := inE_len s ⟨b, o, (i : Int)⟩ x false
  simp only [argsE, List.length_append]
  rw [wN_cons, Nat.add_mul, Nat.mul_add (namesTy x).length]
  omega
theorem visE_cnt (s : Sc) : ∀ (t : Ty) (M : Nat), (namesTy t).length ≤ M → (visE s t).length ≤ (namesTy t).length * M := by
 refine Ty.ind fun t ih M hM => ?_
 rw [namesTy_eq, List.length_cons] at hM ⊢
 change wN t.args + 1 ≤ M at hM
 change _ ≤ (wN t.args + 1) * M
 rw [visE_eq]
 have := argsE_cnt s (M - 1) t.args (fun x hx => ih x hx (M - 1) (by have := wN_mem hx; omega)) false t.name 0
 rw [show M - 1 + 1 = M by omega] at this
 rw [Nat.add_mul]
 omega
theorem flat_cnt {α : Type} (f : α → List Ed) (g : α → List Ty) (C : Nat) : ∀ l : List α, (∀ x ∈ l, (f x).length ≤ wN (g x) * C) → (l.flatMap f).length ≤ wN (l.flatMap g) * C
 | [], _ => by simp
 | x :: r, h => by
  have h1 := h x List.mem_cons_self
  have h2 := flat_cnt f g C r fun y hy => h y (List.mem_cons_of_mem _ hy)
  rw [List.flatMap_cons, List.flatMap_cons, List.length_append, wN_app, Nat.add_mul]
  omega
theorem vis_cnt {α : Type} (s : Sc) (f : α → Ty) (M : Nat) : ∀ l : List α, (∀ x ∈ l, (namesTy (f x)).length ≤ M) → (l.flatMap fun x => visE s (f x)).length ≤ wN (l.map f) * (M + 1)
 | [], _ => by simp
 | x :: r, h => by
  have h1 := visE_cnt s (f x) M (h x List.mem_cons_self)
  have h2 := vis_cnt s f M r fun y hy => h y (List.mem_cons_of_mem _ hy)
  rw [List.flatMap_cons, List.map_cons, List.length_append, wN_cons, Nat.add_mul, Nat.mul_add (namesTy (f x)).length]
  omega
theorem siE_cnt (s : Sc) (x : Sig) (M : Nat) (h : wN (siTys x) ≤ M) : (siE s x).length ≤ wN (siTys x) * (M + 1) := by
 unfold siTys at h ⊢
 simp only [wN_app, wN_cons, wN_nil] at h ⊢
 have h1 := vis_cnt s (fun f : Formal => f.bound) M x.formals fun f hf => by
  have := wN_mem (List.mem_map.2 ⟨f, hf, rfl⟩ : f.bound ∈ x.formals.map (·.bound))
  omega
 have h2 := vis_cnt s (fun f : Param => f.type) M x.params fun f hf => by
  have := wN_mem (List.mem_map.2 ⟨f, hf, rfl⟩ : f.type ∈ x.params.map (·.type))
  omega
 have h3 := visE_cnt s x.result M (by omega)
 unfold siE
 rw [List.length_append, List.length_append]
 simp only [Nat.add_zero, Nat.add_mul]
 rw [Nat.mul_add (namesTy x.result).length]
 omega
theorem exE_cnt (s : Sc) (x : Ex) (M : Nat) (h : wN (x.type :: x.targs) ≤ M) : (exE s x).length ≤ wN (x.type :: x.targs) * (M + 1) := by
 rw [wN_cons] at h ⊢
 have h1 := visE_cnt s x.type M (by omega)
 have h2 := argsE_cnt s M x.targs (fun t ht => visE_cnt s t M (by have := wN_mem ht; omega)) true x.name 0
 unfold exE
 rw [List.length_append, Nat.add_mul, Nat.mul_add (namesTy x.type).length]
 split
 ·omega
 ·simp only [List.length_nil]
  omega
theorem deE_cnt (d : Dec) (M : Nat) (h : wN (deTys d) ≤ M) : (deE d).length ≤ wN (deTys d) * (M + 1) := by
 unfold deTys at h ⊢
 simp only [wN_app] at h ⊢
 simp only [Nat.add_mul]
 unfold deE
 by_cases h3 : d.kind = 3
 ·rw [if_pos h3]
  unfold dmE
  have h1 := siE_cnt (dmS d) d.sig M (by omega)
  have h2 := flat_cnt (exE (dmS d)) (fun x => x.type :: x.targs) (M + 1) (nodesEx d.body) fun x hx => exE_cnt _ x M (by
   have : ∀ l : List Ex, x ∈ l → wN (x.type :: x.targs) ≤ wN (l.flatMap fun x => x.type :: x.targs) := by
    intro l
    induction l with
    | nil => intro hm; cases hm
    | cons y r ih =>
     intro hm
     rw [List.flatMap_cons, wN_app]
     rcases List.mem_cons.1 hm with rfl | hm
     ·omega
     ·have := ih hm
      omega
   have := this _ hx
   change _ ≤ wN (exTys d.body) at this
   omega)
  rw [List.length_append]
  change _ ≤ wN (exTys d.body) * _ at h2
  omega
 ·rw [if_neg h3]
  unfold dsE
  have h1 := vis_cnt (fmS [] false d.name d.formals) (fun f : Formal => f.bound) M d.formals fun f hf => by
   have := wN_mem (List.mem_map.2 ⟨f, hf, rfl⟩ : f.bound ∈ d.formals.map (·.bound))
   omega
  have h2 := vis_cnt (fmS [] false d.name d.formals) (fun f : Param => f.type) M d.fields fun f hf => by
   have := wN_mem (List.mem_map.2 ⟨f, hf, rfl⟩ : f.type ∈ d.fields.map (·.type))
   omega
  have h4 := flat_cnt (fun x : Sig => siE (fmS (fmS [] false d.name d.formals) true x.name x.formals) x) siTys (M + 1) d.sigs fun x hx => siE_cnt _ x M (by
   have : ∀ l : List Sig, x ∈ l → wN (siTys x) ≤ wN (l.flatMap siTys) := by
    intro l
    induction l with
    | nil => intro hm; cases hm
    | cons y r ih =>
     intro hm
     rw [List.flatMap_cons, wN_app]
     rcases List.mem_cons.1 hm with rfl | hm
     ·omega
     ·have := ih hm
      omega
   have := this _ hx
   omega)
  rw [List.length_append, List.length_append]
  omega
theorem prE_cnt {p : Prg} (h : wN (prTys p) ≤ 600) : (prE p).length ≤ 1000000 := by
 have h1 := flat_cnt deE deTys 601 p.decls fun d hd => deE_cnt d 600 (by have := wN_dec hd; omega)
 unfold prE
 have : wN (p.decls.flatMap deTys) ≤ 600 := by
  unfold prTys at h
  rw [wN_app] at h
  omega
 have := Nat.mul_le_mul_right 601 this
 omega
end Go.Proofs.T
namespace Go.Proofs.T
open Go Go.Ab Go.RowKit
def txt (n : Nd) (u : Nat) : Str := (if n.method then ⟨#[46]⟩ else ByteArray.empty) ++ n.name ++ ⟨#[58]⟩ ++ decS u
theorem _root_.Go.Ab.Co.two {x : Bool} {r1 r1' r2 r2' : D} (h1 : CoL r1.cells r1'.cells) (h2 : CoL r2.cells r2'.cells) : Co (.sl x [r1, r2]) (.sl false [r1', r2']) :=
 Co.sl (fun h => nomatch h) rfl fun i r r' hr hr' => by
  match i, hr, hr' with
  | 0, hr, hr' => cases hr; cases hr'; exact h1
  | 1, hr, hr' => cases hr; cases hr'; exact h2
  | i + 2, hr, hr' => simp at hr
def sW : Str := ⟨#[87]⟩
def sa : Str := ⟨#[97]⟩
def sm : Str := ⟨#[109]⟩
def tA : Ty := .mk sa [] 0
def tAny : Ty := .mk ⟨#[65, 110, 121]⟩ [] 0
def tWW : Ty := .mk sW [.mk sW [tA] 0] 0
def d0 : Dec := ⟨1, sW, [⟨sa, tAny, 0⟩], [], [], ByteArray.empty, [], zeroSi, zeroEx, 0⟩
def m0 : Dec := ⟨3, sW, [], [], [], ⟨#[119]⟩, [sa], ⟨sm, [], [], tAny, 0⟩, .mk 3 ByteArray.empty tWW [] [] 0, 0⟩
def p0 : Prg := ⟨[d0, m0], .mk 1 ⟨#[120]⟩ zeroTy [] [] 0⟩
def n0 : Nd := ⟨false, sW, 0⟩
theorem smTy1 (n : Str) (h : n.size ≤ 100) : smTy (.mk n [] 0) := (smTy_iff _).2 ⟨by show n.size ≤ _; omega, by simp [Ty.args], by simp [Ty.args]⟩
theorem smA : smTy tA := smTy1 _ (by decide)
theorem smAny : smTy tAny := smTy1 _ (by decide)
theorem smWW : smTy tWW := (smTy_iff _).2 ⟨by decide, by decide, fun x hx => by
 rw [List.mem_singleton.1 hx]
 exact (smTy_iff _).2 ⟨by decide, by decide, fun y hy => by rw [List.mem_singleton.1 hy]; exact smA⟩⟩
theorem smZSi : smSi zeroSi := ⟨show (0 : Nat) ≤ 1000000 by decide, ⟨show (0 : Nat) ≤ 1000000 by decide, fun f hf => nomatch hf⟩, ⟨show (0 : Nat) ≤ 1000000 by decide, fun f hf => nomatch hf⟩, smZeroTy⟩
theorem smZEx : smEx zeroEx := (smEx_iff _).2 ⟨show (0 : Nat) ≤ 1000000 by decide, smZeroTy, ⟨show (0 : Nat) ≤ 1000000 by decide, fun x hx => nomatch hx⟩, show (0 : Nat) ≤ 1000000 by decide, fun x hx => nomatch hx⟩
theorem sm_p0 : smPr p0 := by
 refine ⟨⟨by decide, fun e h => ?_⟩, (smEx_iff _).2 ⟨by decide, smZeroTy, ⟨by decide, fun x hx => nomatch hx⟩, by decide, fun x hx => nomatch hx⟩⟩
 rcases List.mem_cons.1 h with rfl | h
 ·refine ⟨by decide, ⟨by decide, fun f hf => ?_⟩, ⟨by decide, fun f hf => nomatch hf⟩, ⟨by decide, fun f hf => nomatch hf⟩, by decide, ⟨by decide, fun f hf => nomatch hf⟩, smZSi, smZEx⟩
  rw [List.mem_singleton.1 hf]
  exact ⟨by decide, smAny⟩
 ·rw [List.mem_singleton.1 h]
  refine ⟨by decide, ⟨by decide, fun f hf => nomatch hf⟩, ⟨by decide, fun f hf => nomatch hf⟩, ⟨by decide, fun f hf => nomatch hf⟩, by decide, ⟨by decide, fun f hf => ?_⟩, ⟨by decide, ⟨by decide, fun f hf => nomatch hf⟩, ⟨by decide, fun f hf => nomatch hf⟩, smAny⟩,
   (smEx_iff _).2 ⟨by decide, smWW, ⟨by decide, fun x hx => nomatch hx⟩, by decide, fun x hx => nomatch hx⟩⟩
  rw [List.mem_singleton.1 hf]
  decide
theorem e_d0 : deE d0 = [] := by
 have h : visE (fmS [] false d0.name d0.formals) tAny = [] := by rw [visE_eq]; rfl
 unfold deE
 rw [if_neg (by decide)]
 unfold dsE
 simp only [d0, List.flatMap_cons, List.flatMap_nil, List.append_nil]
 exact h
theorem e_m0 : deE m0 = [⟨n0, n0, true⟩, ⟨n0, n0, false⟩] := by
 have hl : ∀ v, lookS (dmS m0) v = lookS [(sa, n0)] v := fun v => by
  have h := look_put (look_put0 false m0.name m0.vars) true m0.sig.name (m0.sig.formals.map fun f : Formal => f.name) v
  exact h
 have hne : ¬ sa = sW := by decide
 have la : lookS [(sa, n0)] sa = some n0 := by simp [lookS]
 have lW : lookS [(sa, n0)] sW = none := by simp [lookS, hne]
 unfold deE
 rw [if_pos (by decide)]
 unfold dmE
 rw [siE_congr hl]
 have hx : (nodesEx m0.body).flatMap (exE (dmS m0)) = exE [(sa, n0)] m0.body := by
  rw [nodesEx_eq, show m0.body.kids = [] from rfl]
  simp [nodesExs, exE_congr hl]
 rw [hx]
 have h1 : siE [(sa, n0)] m0.sig = [] := by
  unfold siE
  simp [m0, tAny, visE_eq, argsE]
 rw [h1, List.nil_append]
 unfold exE
 rw [if_neg (show ¬ m0.body.kind = 2 by decide), List.append_nil]
 show visE [(sa, n0)] tWW = _
 have h2 : visE [(sa, n0)] tWW = (match lookS [(sa, n0)] sW with | some x => [] | none => []) ++ ((match lookS [(sa, n0)] sa with | some x => [⟨x, n0, true⟩] | none => []) ++ match lookS [(sa, n0)] sa with | some x => [⟨x, n0, false⟩] | none => []) := by
  simp [tWW, tA, visE, argsE, inE, inEs]
  rfl
 rw [h2, la, lW]
 rfl
end Go.Proofs.T
namespace Go.Proofs.T
open Go Go.Ab Go.RowKit
def bodyT (x : Ex) : List Ty := x.targs ++ (if x.kind = 3 ∨ x.kind = 5 then [x.type] else [])
def bodyTys (e : Ex) : List Ty := (nodesEx e).flatMap bodyT
def tyDe (d : Dec) : List Ty := d.formals.map (·.bound) ++ d.fields.map (·.type) ++ d.sigs.flatMap siTys ++ (if d.kind = 3 then siTys d.sig ++ bodyTys d.body else [])
def tyPr (p : Prg) : List Ty := p.decls.flatMap tyDe ++ bodyTys p.main
end Go.Proofs.T
namespace Go.Proofs.T
open Go Go.Ab Go.RowKit
end Go.Proofs.T
namespace Go.Proofs.T
open Go Go.Ab Go.RowKit
theorem nodesEx_le (e : Ex) : (nodesEx e).length ≤ wN (exTys e) := by
 refine Nat.le_trans ?_ (wN_len _)
 unfold exTys
 generalize nodesEx e = l
 induction l with
 | nil => simp
 | cons x r ih =>
  rw [List.flatMap_cons, List.length_append]
  simp only [List.length_cons]
  omega
theorem deTys_body (d : Dec) : wN (exTys d.body) ≤ wN (deTys d) := by
 unfold deTys
 rw [wN_app, wN_app, wN_app, wN_app]
 omega
end Go.Proofs.T
namespace Go.Proofs.T
open Go Go.Ab Go.RowKit
theorem body_le {p : Prg} (hw : wN (prTys p) ≤ 600) : ∀ d ∈ p.decls, (nodesEx d.body).length ≤ 1000000 := fun d hd => by
 have h1 := nodesEx_le d.body
 have h2 := deTys_body d
 have h3 := wN_dec hd
 omega
theorem right_dec {p : Prg} (h : rightPr p = true) : ∀ d ∈ p.decls, rightDe d = true := by
 unfold rightPr at h
 rw [Bool.and_eq_true] at h
 exact List.all_eq_true.1 h.1
theorem setE_len (m : List Ed) : (setE m).length ≤ m.length := by
 have := putAll_len m []
 simpa [setE] using this
theorem deE_le {p : Prg} {d : Dec} (hd : d ∈ p.decls) : (deE d).length ≤ (prE p).length := by
 unfold prE
 generalize p.decls = l at *
 induction l with
 | nil => cases hd
 | cons x r ih =>
  rw [List.flatMap_cons, List.length_append]
  rcases List.mem_cons.1 hd with rfl | hd
  ·omega
  ·have := ih hd
   omega
end Go.Proofs.T
namespace Go.Proofs.T
open Go Go.Ab Go.RowKit
noncomputable def stE (d : Dec) : List Ed := setE (deE d)
theorem inE_ok {s : Sc} (hs : ∀ p ∈ s, okNd p.2) {to : Nd} (hto : okNd to) : ∀ (t : Ty) (ins : Bool), ∀ e ∈ inE s to t ins, okEd e := by
 refine Ty.ind fun t ih ins e he => ?_
 rw [inE_eq, List.mem_append] at he
 rcases he with he | he
 ·unfold hdE at he
  split at he
  ·rename_i x hx
   split at he
   ·rw [List.mem_singleton.1 he]
    exact ⟨lookS_ok hs hx, hto⟩
   ·cases he
  ·cases he
 ·obtain ⟨x, hx, he⟩ := List.mem_flatMap.1 he
  exact ih x hx true e he
theorem argsE_okV {s : Sc} (hs : ∀ p ∈ s, okNd p.2) : ∀ (l : List Ty), (∀ x ∈ l, ∀ e ∈ visE s x, okEd e) → ∀ (b : Bool) (o : Str) (i : Nat), o.size ≤ 9223372036854775807 → ∀ e ∈ argsE s l b o i, okEd e
 | [], _, _, _, _, _, e, he => by simp [argsE] at he
 | x :: r, hl, b, o, i, ho, e, he => by
  simp only [argsE, List.mem_append] at he
  rcases he with (he | he) | he
  ·exact inE_ok (to := ⟨b, o, (i : Int)⟩) hs ho x false e he
  ·exact hl x List.mem_cons_self e he
  ·exact argsE_okV hs r (fun y hy => hl y (List.mem_cons_of_mem _ hy)) b o (i + 1) ho e he
theorem visE_ok {s : Sc} (hs : ∀ p ∈ s, okNd p.2) : ∀ (t : Ty), okTy t → ∀ e ∈ visE s t, okEd e := by
 refine Ty.ind fun t ih hok e he => ?_
 have h := (okTy_iff t).1 hok
 rw [visE_eq] at he
 exact argsE_okV hs t.args (fun x hx => ih x hx (h.2.2 x hx)) false t.name 0 h.1 e he
theorem siE_ok {s : Sc} (hs : ∀ p ∈ s, okNd p.2) {x : Sig} (hx : smSi x) : ∀ e ∈ siE s x, okEd e := by
 intro e he
 unfold siE at he
 simp only [List.mem_append, List.mem_flatMap] at he
 rcases he with (⟨f, hf, he⟩ | ⟨f, hf, he⟩) | he
 ·exact visE_ok hs _ (smTy.ok _ (hx.2.1.2 f hf).2) e he
 ·exact visE_ok hs _ (smTy.ok _ (hx.2.2.1.2 f hf).2) e he
 ·exact visE_ok hs _ (smTy.ok _ hx.2.2.2) e he
theorem rdE_ok {d : Dec} (hd : smDe d) : ∀ e ∈ rdE d, okEd e := by
 obtain ⟨k1, ⟨k2, k3⟩, ⟨k4, k5⟩, ⟨k6, k7⟩, k8, ⟨k9, k10⟩, k11, k12⟩ := hd
 intro e he
 unfold rdE at he
 split at he
 ·have hokS : ∀ p ∈ rmS d, okNd p.2 := okSc_app (okScN _ _ _ (Nat.le_trans k1 (by decide))) (okScN _ _ _ (Nat.le_trans k11.1 (by decide)))
  unfold rmE at he
  rcases List.mem_append.1 he with he | he
  ·exact siE_ok hokS k11 e he
  ·obtain ⟨x, hx, he⟩ := List.mem_flatMap.1 he
   have h := (smEx_iff _).1 (smNodes d.body k12 x hx)
   unfold rxE at he
   rcases List.mem_append.1 he with he | he
   ·exact visE_ok hokS _ (smTy.ok _ h.2.1) e he
   ·exact argsE_okV hokS _ (fun y hy => visE_ok hokS y (smTy.ok _ (h.2.2.1.2 y hy))) true x.name 0 (Nat.le_trans h.1 (by decide)) e he
 ·have hokS : ∀ p ∈ fmN false d.name d.formals, okNd p.2 := okScN _ _ _ (Nat.le_trans k1 (by decide))
  unfold rsE at he
  rcases List.mem_append.1 he with he | he
  ·have hsm : smSi ⟨ByteArray.empty, d.formals, d.fields, zeroTy, 0⟩ := ⟨show (0 : Nat) ≤ 1000000 by decide, ⟨show d.formals.length ≤ 1000000 by omega, k3⟩, ⟨k4, k5⟩, smZeroTy⟩
   exact siE_ok hokS hsm e he
  ·obtain ⟨x, hx, he⟩ := List.mem_flatMap.1 he
   exact siE_ok (okSc_app hokS (okScN _ _ _ (Nat.le_trans (k7 x hx).1 (by decide)))) (k7 x hx) e he
theorem stE_ok {d : Dec} (hd : smDe d) (hr : rightDe d = true) : ∀ e ∈ stE d, okEd e := fun e he => by
 unfold stE at he
 rw [setE_mem, ← rdE_eq hr] at he
 exact rdE_ok hd e he
end Go.Proofs.T
namespace Go.Proofs.T
open Go Go.Ab Go.RowKit
def bareEx (e : Ex) : Bool := (nodesEx e).all fun x => decide (x.targs.length = 0)
def plainDe (d : Dec) : Bool := decide (d.formals.length + d.vars.length + d.sig.formals.length = 0) && (bareEx d.body && d.sigs.all fun s => decide (s.formals.length = 0))
def plainPr (p : Prg) : Bool := (tyPr p).all (fun t => decide (t.args.length = 0)) && (p.decls.all plainDe && bareEx p.main)
end Go.Proofs.T
namespace Go.Proofs.T
open Go Go.Ab Go.RowKit
section
variable {p : Prg} (hr : rightPr p = true) (hp : plainPr p = true)
include hp
include hr
end
end Go.Proofs.T
namespace Go.Proofs.T
open Go Go.Ab Go.RowKit
def hasS (x : Nd) (s : Sig) : Bool := x.method && (decide (s.name = x.name) && decide (x.idx < (s.formals.length : Int)))
def hasD (x : Nd) (d : Dec) : Bool := (!x.method && (decide (d.name = x.name) && decide (x.idx < (d.formals.length : Int)))) || (d.sigs ++ [d.sig]).any (hasS x)
noncomputable def mostF (s : Str) (l : List Dec) : Nat := l.foldl (fun m d => if d.name = s then max m d.formals.length else m) 0
noncomputable def memB (x : Nd) (l : List Nd) : Bool := by classical exact decide (x ∈ l)
theorem memB_true {x : Nd} {l : List Nd} : memB x l = true ↔ x ∈ l := by unfold memB; simp
theorem memB_succ {x : Nd} {l : List Nd} {k : Nat} (h : k < l.length) : memB x (l.take (k + 1)) = true ↔ memB x (l.take k) = true ∨ l[k] = x := by
 rw [memB_true, memB_true, List.take_add_one, List.getElem?_eq_getElem h, List.mem_append]
 simp [eq_comm]
end Go.Proofs.T
namespace Go.Proofs.T
open Go Go.Ab Go.RowKit
theorem nodup_len {α : Type} : ∀ (l m : List α), l.Nodup → (∀ x ∈ l, x ∈ m) → l.length ≤ m.length
 | [], _, _, _ => Nat.zero_le _
 | x :: l, m, hn, h => by
  obtain ⟨s, t, rfl⟩ := List.append_of_mem (h x List.mem_cons_self)
  obtain ⟨h1, h2⟩ := List.nodup_cons.1 hn
  have := nodup_len l (s ++ t) h2 fun y hy => by
   have := h y (List.mem_cons_of_mem _ hy)
   simp only [List.mem_append, List.mem_cons] at this ⊢
   rcases this with h | rfl | h
   ·exact .inl h
   ·exact absurd hy h1
   ·exact .inr h
  simp only [List.length_append, List.length_cons] at this ⊢
  omega
noncomputable def frN (l : List Dec) : Nat → Nat
 | 0 => 0
 | k + 1 => frN l k + (match l[k]? with | some d => d.formals.length - mostF d.name (l.take k) | none => 0)
def okNd2 (x : Nd) : Prop := okNd x ∧ -9223372036854775808 ≤ x.idx ∧ x.idx ≤ 9223372036854775807
end Go.Proofs.T
namespace Go.Proofs.T
open Go Go.Ab Go.RowKit
inductive Rch (l : List Ed) (n : Nd) : Nd → Prop
 | one {e : Ed} : e ∈ l → e.frm = n → Rch l n e.to
 | more {e : Ed} : Rch l n e.frm → e ∈ l → Rch l n e.to
theorem Rch.mono {l m : List Ed} (h : ∀ e ∈ l, e ∈ m) {n x : Nd} (hr : Rch l n x) : Rch m n x := by
 induction hr with
 | one h1 h2 => exact .one (h _ h1) h2
 | more _ h2 ih => exact .more ih (h _ h2)
theorem Rch.target {l : List Ed} {n x : Nd} (h : Rch l n x) : ∃ e ∈ l, e.to = x := by
 cases h with
 | one h1 _ => exact ⟨_, h1, rfl⟩
 | more _ h2 => exact ⟨_, h2, rfl⟩
abbrev Ms := List (Nd × Ed)
def keysM (es : Ms) : List Nd := es.map (·.1)
def allN (n : Nd) (es : Ms) : List Nd := n :: keysM es
theorem allN_len (n : Nd) (es : Ms) : (allN n es).length = es.length + 1 := by simp [allN, keysM]
structure Bfs (l : List Ed) (n : Nd) (es : Ms) : Prop where
 nodup : (keysM es).Nodup
 to : ∀ p ∈ es, p.2 ∈ l ∧ p.2.to = p.1
 back : ∀ (i : Nat) p, es[i]? = some p → p.2.frm = n ∨ ∃ j q, j < i ∧ es[j]? = some q ∧ q.1 = p.2.frm
theorem Bfs.nil (l : List Ed) (n : Nd) : Bfs l n [] := ⟨List.nodup_nil, (fun p h => nomatch h), (fun i p h => by simp at h)⟩
theorem Bfs.add {l : List Ed} {n : Nd} {es : Ms} (h : Bfs l n es) {e : Ed} (he : e ∈ l) (hn : e.to ∉ keysM es) (hf : e.frm ∈ allN n es) : Bfs l n (es ++ [(e.to, e)]) := by
 refine ⟨?_, fun p hp => ?_, fun i p hp => ?_⟩
 ·unfold keysM at *
  rw [List.map_append, List.nodup_append]
  refine ⟨h.nodup, by simp, fun a ha b hb => ?_⟩
  simp only [List.map_cons, List.map_nil, List.mem_singleton] at hb
  subst hb
  rintro rfl
  exact hn ha
 ·rcases List.mem_append.1 hp with hp | hp
  ·exact h.to p hp
  ·rw [List.mem_singleton.1 hp]
   exact ⟨he, rfl⟩
 ·by_cases hi : i < es.length
  ·rw [List.getElem?_append_left hi] at hp
   rcases h.back i p hp with h1 | ⟨j, q, h1, h2, h3⟩
   ·exact .inl h1
   ·exact .inr ⟨j, q, h1, by rw [List.getElem?_append_left (by omega)]; exact h2, h3⟩
  ·rw [List.getElem?_append_right (by omega)] at hp
   have h0 : i - es.length = 0 := by
    have := (List.getElem?_eq_some_iff.1 hp).1
    simp at this
    omega
   rw [h0] at hp
   cases hp
   rcases List.mem_cons.1 hf with h1 | h1
   ·exact .inl h1
   ·obtain ⟨q, hq, h2⟩ := List.mem_map.1 h1
    obtain ⟨j, hj, h3⟩ := List.mem_iff_getElem.1 hq
    exact .inr ⟨j, q, by omega, by rw [List.getElem?_append_left hj, List.getElem?_eq_getElem hj, h3], h2⟩
theorem keysM_add (es : Ms) (p : Nd × Ed) : keysM (es ++ [p]) = keysM es ++ [p.1] := by simp [keysM]
theorem allN_add (n : Nd) (es : Ms) (p : Nd × Ed) : allN n (es ++ [p]) = allN n es ++ [p.1] := by simp [allN, keysM_add]
def Clo (l : List Ed) (x : Nd) (es : Ms) : Prop := ∀ e ∈ l, e.frm = x → e.to ∈ keysM es
theorem Clo.add {l : List Ed} {x : Nd} {es : Ms} (h : Clo l x es) (p : Nd × Ed) : Clo l x (es ++ [p]) := fun e he hf => by
 rw [keysM_add]
 exact List.mem_append_left _ (h e he hf)
theorem Bfs.rch {l : List Ed} {n : Nd} {es : Ms} (h : Bfs l n es) : ∀ (i : Nat) p, es[i]? = some p → Rch l n p.1 := by
 intro i
 induction i using Nat.strongRecOn with
 | _ i ih =>
  intro p hp
  obtain ⟨h1, h2⟩ := h.to p (List.mem_of_getElem? hp)
  rw [← h2]
  rcases h.back i p hp with h3 | ⟨j, q, hj, hq, h4⟩
  ·exact .one h1 h3
  ·refine .more ?_ h1
   rw [← h4]
   exact ih j hj q hq
theorem Bfs.all {l : List Ed} {n : Nd} {es : Ms} (h : Bfs l n es) (hc : ∀ x ∈ allN n es, Clo l x es) (x : Nd) : x ∈ keysM es ↔ Rch l n x := by
 constructor
 ·intro hx
  obtain ⟨p, hp, rfl⟩ := List.mem_map.1 hx
  obtain ⟨i, hi, h3⟩ := List.mem_iff_getElem.1 hp
  exact h.rch i p (by rw [List.getElem?_eq_getElem hi, h3])
 ·intro hx
  induction hx with
  | one h1 h2 => exact hc n List.mem_cons_self _ h1 h2
  | more _ h2 ih => exact hc _ (List.mem_cons_of_mem _ ih) _ h2 rfl
theorem Bfs.len {l : List Ed} {n : Nd} {es : Ms} (h : Bfs l n es) : es.length ≤ l.length := by
 have h1 : (es.map (·.2)).Nodup := by
  have h2 : (es.map (·.2)).map (·.to) = keysM es := by
   unfold keysM
   rw [List.map_map]
   exact List.map_congr_left fun p hp => (h.to p hp).2
  have h3 := h.nodup
  rw [← h2] at h3
  exact List.Pairwise.of_map _ (fun a b hab e => hab (by rw [e])) h3
 have := nodup_len _ l h1 fun e he => by
  obtain ⟨p, hp, rfl⟩ := List.mem_map.1 he
  exact (h.to p hp).1
 simpa using this
def ndV (x : Nd) : Value := .agg #[.bool x.method, .string x.name, .int .i64 x.idx]
theorem ndV_inj {a b : Nd} (h : ndV a = ndV b) : a = b := by
 obtain ⟨a1, a2, a3⟩ := a
 obtain ⟨b1, b2, b3⟩ := b
 simp only [ndV, Value.agg.injEq, Array.mk.injEq, List.cons.injEq, Value.bool.injEq, Value.string.injEq, Value.int.injEq, true_and, and_true] at h
 obtain ⟨rfl, rfl, rfl⟩ := h
 rfl
def ksM : KS := .agg [.boo, .str, .num .i64]
attribute [go_sem] ksM
def encM (es : Ms) : List (Value × D) := es.map fun p => (ndV p.1, encEd p.2)
theorem encM_len (es : Ms) : (encM es).length = es.length := by simp [encM]
open Classical in
noncomputable def lookM : Ms → Nd → Option Ed
 | [], _ => none
 | p :: r, x => if p.1 = x then some p.2 else lookM r x
open Classical in
theorem mget_m : ∀ (es : Ms) (x : Nd), mget (encM es) (ndV x) = (lookM es x).map encEd
 | [], _ => rfl
 | p :: r, x => by
  have ih := mget_m r x
  unfold encM at ih ⊢
  simp only [List.map_cons, mget, lookM]
  by_cases h : p.1 = x
  ·simp [h]
  ·rw [if_neg (fun h' => h (ndV_inj h')), if_neg h, ih]
open Classical in
theorem mput_m : ∀ (es : Ms) (x : Nd) (e : Ed), lookM es x = none → mput (encM es) (ndV x) (encEd e) = encM (es ++ [(x, e)])
 | [], _, _, _ => rfl
 | p :: r, x, e, h => by
  unfold lookM at h
  split at h
  ·cases h
  ·rename_i hne
   have ih := mput_m r x e h
   unfold encM at ih ⊢
   simp only [List.map_cons, mput, List.cons_append]
   rw [if_neg (fun h' => hne (ndV_inj h')), ih]
theorem lookM_none : ∀ (es : Ms) (x : Nd), lookM es x = none ↔ x ∉ keysM es
 | [], x => by simp [lookM, keysM]
 | p :: r, x => by
  have ih := lookM_none r x
  unfold keysM at ih ⊢
  unfold lookM
  split
  ·rename_i h
   simp [h]
  ·rename_i h
   rw [ih]
   simp only [List.map_cons, List.mem_cons, not_or]
   exact ⟨fun h1 => ⟨fun e => h e.symm, h1⟩, fun h1 => h1.2⟩
theorem lookM_mem : ∀ (es : Ms) (x : Nd) (e : Ed), lookM es x = some e → (x, e) ∈ es
 | [], x, e, h => by simp [lookM] at h
 | p :: r, x, e, h => by
  unfold lookM at h
  split at h
  ·rename_i h1
   cases h
   subst h1
   exact List.mem_cons_self
  ·exact List.mem_cons_of_mem _ (lookM_mem r x e h)
end Go.Proofs.T
namespace Go.Ab
open Go Go.RowKit
section
variable {P : Program} (w : World)
theorem run_append_room_at (t ty e : TypeId) (i : TypeInfo) (ht : P.underlying t = some (.slice e)) (hi : P.info? e = some i)
  (g o sLen sCap : Nat) (cur : Array Value) (hg : w.heap[g]? = some (.cells cur e (0, 0)))
  (a : Addr) (m c : Nat) (news : List Value) (hl : news.length = m * i.size) (hnews : ∀ j u, news[j]? = some u → w.cell? (a.add j) = some u) (h1 : ∀ u ∈ news, u.oneCell' = true)
  (hroom : sLen + m ≤ sCap) (hfit : o + sLen * i.size + news.length ≤ cur.size) :
  (Builtin.append_ #[t, t] ty #[.slice (some ⟨g, o, none⟩) sLen sCap, .slice (some a) m c]).run P w =
   .ok (.slice (some ⟨g, o, none⟩) (sLen + m) sCap) (w.setRow g (cur.toList.take (o + sLen * i.size) ++ news ++ cur.toList.drop (o + sLen * i.size + news.length)).toArray) := by
 have hf := run_firstCells_some (P := P) w i.size m a m c news hl hnews
 have hst := run_storeCells_at P g (o + sLen * i.size) e news 0 cur w hg (by simpa using hfit) h1
 simp only [Nat.add_zero] at hst
 simp [Builtin.append_, run_underlying ht, sizeOf, typeInfo, hi, Builtin.lenOf, hroom, hf, Addr.add_lit, hst]
end
section
variable {E : Ctx} {N : Nat} {ops : List Oper} {ds : List (Option Tmp)} {g : Nat} {K : St → Prop} {st : St} {o : Oper} {r : List Oper}
def TOpX (E : Ctx) (g : Nat) (o : Oper) (e : Operand → D) (κ : Kp) (S : D → Sto → Prop) : Prop :=
 ∀ w0, E.A w0 → ∀ G w (a : Act), WF w0 G w → (∀ x ∈ o.op.operands, V G w (a.eval x) (e x)) → Objs w0 G w κ → (∀ d, o.dst = some d → g < G.top ∧ ∀ j, G.ρ ⟨g, d, j⟩ = none) →
  ∀ (K : Act → World → Prop) (Q' : Exit → Act → World → Prop),
   (∀ G' w' x v σ', S v σ' → WF w0 G' w' → V G' w' x v → Objs w0 G' w' (get σ') → Step (rsv g o.dst) G w κ G' w' (get σ') → K (a.put o.dst x) w') → ∀ r, o.wpIn (Fr r) 0 E.P a w K Q'
theorem aops_x {S : D → Sto → Prop} (hds : ops.map (·.dst) = ds) (hw : wantL ds st.env o.guard = some true) (hq : TOpX E g o (ev E st.env) (get st.σ) S) (h : ∀ v σ', S v σ' → AOps E N ops g K r (st.env' o.dst v σ')) : AOps E N ops g K (o :: r) st := by
 intro w0 hA G w a hN hr hg hnd hfr Q' hQ rr
 simp only [wpListIn]
 rw [if_pos (wantD_sound hr (by rw [← wantL_eq hds]; exact hw))]
 refine hq w0 hA G w a hr.wf (fun x _ => hr.ev hA x) hr.objs (fun d hd => ⟨hg, (hfr o (by simp) d hd).2⟩) _ _ (fun G' w' x v σ hS hw' hv ho hs => ?_) rr
 have hr' := hr.put' (v := v) (dst := o.dst) hs rfl hw' ho hv (fun d hd => by rw [hN]; exact (hfr o List.mem_cons_self d hd).1)
 have hσ : (st.env' o.dst v σ).σ = σ := by cases o.dst <;> rfl
 have hnd' : (r.filterMap (·.dst)).Nodup ∧ ∀ d, o.dst = some d → d ∉ r.filterMap (·.dst) := by
  cases hd : o.dst with
  | none => simp only [List.filterMap_cons, hd] at hnd; exact ⟨hnd, fun d h => by cases h⟩
  | some d => simp only [List.filterMap_cons, hd, List.nodup_cons] at hnd; exact ⟨hnd.2, fun d' h => by cases h; exact hnd.1⟩
 refine h v σ hS w0 hA G' w' _ (by rw [put_size, hN]) hr' (Nat.lt_of_lt_of_le hg hs.top) hnd'.1 (fun o' ho' d hd => ⟨(hfr o' (by simp [ho']) d hd).1, fun j => hs.fresh (by exact hg) ((hfr o' (by simp [ho']) d hd).2 j) fun ⟨_, he⟩ => ?_⟩) Q' (fun G2 st2 a2 w2 h1 h2 h3 h4 => hQ G2 st2 a2 w2 h1 h2 ?_ h4) rr
 ·exact hnd'.2 d he (List.mem_filterMap.2 ⟨o', ho', hd⟩)
 ·rw [hσ] at h3
  exact (hs.weaken fun n _ hn => hn.1).trans h3
def AppQ (g d : Nat) (n : Nm) (el : TypeId) (k off len : Nat) (rows rows2 : List D) (σ : Sto) (v : D) (σ' : Sto) : Prop :=
 ∃ off' rows', off' ≤ off ∧ off' + (len + rows2.length) = rows'.length ∧ rows'.drop off' = rows.drop off ++ rows2 ∧ v = .osl ⟨g, d, 0⟩ k off' (len + rows2.length) ∧ σ' = (⟨g, d, 0⟩, .arr el k rows') :: del σ n
theorem Flat.dropq {G : Gh} {w : World} {k : Nat} {rows : List D} {xs : List Value} (h : Flat G w k rows (xs[·]?)) (off : Nat) : Flat G w k (rows.drop off) ((xs.drop (off * k))[·]?) := by
 intro i r hr
 rw [List.getElem?_drop] at hr
 obtain ⟨h1, h2⟩ := h _ r hr
 refine ⟨h1, fun j d hd => ?_⟩
 obtain ⟨x, hx, hv⟩ := h2 j d hd
 refine ⟨x, ?_, hv⟩
 simp only at hx ⊢
 rw [List.getElem?_drop, ← hx, Nat.add_mul]
 congr 1
 omega
theorem topx_appendq {e : Operand → D} {t el : TypeId} {so x : Operand} (hop : o.op = .call { callee := .builtin .append, args := #[so, x], argTypes := #[t, t] }) {d : Nat} (hd : o.dst = some d)
  {n : Nm} {k off len : Nat} (hs : e so = .osl n k off len) {σ : Sto} {rows rows2 : List D} (hκ : get σ n = some (.arr el k rows)) (hend : off + len = rows.length) {xf : Bool} (hx : e x = .sl xf rows2)
  (he : elemS E.P t = some el) (hk : szOf E.P el = some k) {bs : Nat} (hbs : bytesOf E.P el = some bs) {z : Value} (hz : zeroOf E.P el = some z) (hzs : z.cells.size = k) (hk0 : 0 < k) (hok : okRows k rows2) (hne : 0 < rows2.length)
  (h63 : rows.length + rows2.length ≤ 9223372036854775807) (hb : (rows.length + rows2.length) * bs ≤ 140737488355328) :
  TOpX E g o e (get σ) (AppQ g d n el k off len rows rows2 σ) := by
 intro w0 hA G w a hw hV ho hf K Q' hK
 obtain ⟨hg, hfresh⟩ := hf d hd
 have hn2 := hfresh 0
 have hvs := hV so (by simp [hop, Op.operands, Call.operands])
 have hvx := hV x (by simp [hop, Op.operands, Call.operands])
 rw [hs] at hvs
 rw [hx] at hvx
 obtain ⟨v, hρ, ⟨xs, hown, hfl⟩, hnF⟩ := ho.ob n _ hκ
 obtain ⟨i, hi⟩ : ∃ i, E.P.info? el = some i := by
  unfold szOf at hk
  cases hi : E.P.info? el with
  | none => rw [hi] at hk; cases hk
  | some i => exact ⟨i, rfl⟩
 have hik : i.size = k := by simpa [szOf, hi] using hk
 have hib : i.bytes = bs := by simpa [bytesOf, hi] using hbs
 have hiz : i.zero = some z := by simpa [zeroOf, hi] using hz
 have ht := elemS_spec he
 have hbw : w0.heap.size ≤ w.heap.size := hw.below.size
 rcases sl_cells hvx hok hk0 with ⟨_, rfl⟩ | ⟨ad, c, news, hsrc, hl, hcell, hone, hfl2⟩
 ·simp at hne
 -- the slice
 obtain ⟨b, C, cap, a0, hv, heval, hcap, hle, ha0⟩ : ∃ b C cap a0, v = .slice (some ⟨b, 0, none⟩) rows.length C ∧ a.eval so = .slice (some a0) len cap ∧ off + cap = C ∧ len ≤ cap ∧ (0 < cap → a0 = ⟨b, off * k, none⟩) := by
  generalize a.eval so = u at hvs
  cases hvs with
  | @osl _ b _ _ _ cap L C a0 hρ' hC hle ha =>
   rw [hρ] at hρ'
   cases hρ'
   rcases hown.2 with ⟨hc, _⟩ | ⟨_, _, _, hc, _⟩
   ·cases hc
   ·cases hc
    exact ⟨b, C, cap, a0, rfl, rfl, hC, hle, ha⟩
 subst hv
 rcases hown.2 with ⟨hc, _⟩ | ⟨b', C', cur, hc, hbb, hh, hnc, hcm, hcs, htake⟩
 ·cases hc
 cases hc
 have hxl : xs.length = rows.length * k := hown.1
 have hVm : ∀ (n' : Nm) (v' : Value) (w' : World), n' = ⟨g, d, 0⟩ → Gr w w' (some b) → ∀ y d', V G w y d' → V (G.upd n' v') w' y d' := fun n' v' w' hn' hgr y d' h => by
  subst hn'
  exact h.upd hn2 fun b2 hF => hgr.block b2 (hw.lt b2 hF) fun e => hnF b rfl (by cases e; exact hF)
 have fin : ∀ (off' : Nat) (rows' : List D) (v' : Value) (L' C2 : Nat) (b2 : Nat) (a2 : Addr) (cap2 : Nat) (w' : World) (xs' : List Value), (Builtin.append_ #[t, t] o.type #[.slice (some a0) len cap, .slice (some ad) rows2.length c]).run E.P w = .ok (.slice (some a2) (len + rows2.length) cap2) w' →
   v' = .slice (some ⟨b2, 0, none⟩) L' C2 → off' + cap2 = C2 → len + rows2.length ≤ cap2 → a2 = ⟨b2, off' * k, none⟩ → w'.ownsRow w0.heap.size el k v' rows'.length xs' → Gr w w' (some b) → (b2 = b ∨ (w.heap.size ≤ b2 ∧ b2 < w'.heap.size)) →
   Flat G w k rows' (xs'[·]?) → off' ≤ off → off' + (len + rows2.length) = rows'.length → rows'.drop off' = rows.drop off ++ rows2 → ∀ r, o.wpIn (Fr r) 0 E.P a w K Q' := by
  intro off' rows' v' L' C2 b2 a2 cap2 w' xs' hrun hv' hC2 hle2 ha2 hown' hgr hb2 hfl' h0 h1 h2
  subst hv'
  obtain ⟨g1, g2, g3⟩ := turn_obj (ob' := .arr el k rows') hw ho hκ hρ hn2 hg (v' := .slice (some ⟨b2, 0, none⟩) L' C2) (w' := w') hgr (fun b3 hb3 => by
   simp only [blk, Option.some.injEq] at hb3
   subst hb3
   rcases hb2 with h | h
   ·exact .inl (by rw [h]; rfl)
   ·exact .inr h) ⟨xs', hown', hfl'.mono (hVm _ _ _ rfl hgr)⟩
  have hκ' : Kp.put (Kp.del (get σ) n) ⟨g, d, 0⟩ (.arr el k rows') = get ((⟨g, d, 0⟩, .arr el k rows') :: del σ n) := by
   funext m
   simp only [Kp.put, Kp.del, get, get_del]
  rw [hκ'] at g2 g3
  have hex : (execOp a.eval o).run E.P w = .ok (.value (.slice (some a2) (len + rows2.length) cap2)) w' := by
   simp [execOp, hop, resolve, invoke, builtin, heval, hsrc, hrun]
  refine op_val hex ?_
  refine hK _ _ _ _ _ ⟨off', rows', h0, h1, h2, rfl, rfl⟩ g1 (.osl (n := ⟨g, d, 0⟩) (b := b2) (L := L') (C := C2) (by simp [Gh.upd]) hC2 hle2 fun _ => ha2) g2 (g3.weaken fun m _ hm => by subst hm; exact ⟨rfl, hd⟩)
 by_cases hroom : len + rows2.length ≤ cap
 ·have ha1 := ha0 (by omega)
  subst ha1
  have e1 : off * k + len * k = rows.length * k := by rw [← Nat.add_mul, hend]
  have hfit : off * k + len * k + news.length ≤ cur.size := by
   rw [hl, e1, hcs, ← Nat.add_mul]
   exact Nat.mul_le_mul_right _ (by omega)
  have hrun := run_append_room_at (P := E.P) w t o.type el i ht hi b (off * k) len cap cur hh ad rows2.length c news (by rw [hik]; exact hl) hcell hone hroom (by rw [hik]; exact hfit)
  rw [hik, e1, htake] at hrun
  refine fin off (rows ++ rows2) (.slice (some ⟨b, 0, none⟩) (rows ++ rows2).length C) _ C b ⟨b, off * k, none⟩ cap _ (xs ++ news) hrun rfl hcap hroom rfl ?_ ?_ (.inl rfl) (Flat.append (G := G) (w := w) hfl hown.1 hfl2) (Nat.le_refl _) ?_ ?_
  ·refine ⟨by rw [List.length_append, List.length_append, hxl, hl, Nat.add_mul], .inr ⟨b, C, _, rfl, hbb, setRow_heap w b cur _ el _ hh, by rw [List.length_append]; omega, hcm, ?_, ?_⟩⟩
   ·have : xs.length ≤ cur.size := by rw [hxl]; omega
    simp only [List.size_toArray, List.length_append, List.length_drop, Array.length_toList]
    rw [← hcs, ← hxl]
    have : xs.length + news.length ≤ cur.size := by rw [hxl, ← e1]; exact hfit
    omega
   ·rw [List.length_append, Nat.add_mul, ← hxl, ← hl, ← List.length_append]
    simp only [List.append_assoc]
    rw [← List.append_assoc]
    exact List.take_left
  ·exact Gr.of ⟨rfl, rfl, rfl, by simp, fun k2 _ hk2 => setRow_other w b k2 _ fun e => hk2 (by rw [e])⟩ (run_drawn _ _ _ _ hrun)
  ·rw [List.length_append]
   omega
  ·rw [List.drop_append_of_le_length (by omega)]
 ·have holds : ∀ j u, (xs.drop (off * k))[j]? = some u → w.cell? (a0.add j) = some u := fun j u hu => by
   by_cases hc0 : 0 < cap
   ·rw [ha0 hc0, Addr.add_lit, cell_of_row w b (off * k + j) cur el (0, 0) hh]
    rw [List.getElem?_drop, ← htake, List.getElem?_take] at hu
    split at hu
    ·simpa using hu
    ·cases hu
   ·have : len = 0 := by omega
    have : off = rows.length := by omega
    rw [List.drop_eq_nil_of_le (by rw [hxl, this]; exact Nat.le_refl _)] at hu
    simp at hu
  have hol : (xs.drop (off * k)).length = len * k := by
   rw [List.length_drop, hxl, ← hend, Nat.add_mul]
   omega
  have hle63 : len + rows2.length ≤ 9223372036854775807 := by omega
  have hbl : (len + rows2.length) * bs ≤ 140737488355328 := Nat.le_trans (Nat.mul_le_mul_right _ (by omega)) hb
  have hrun := run_append_grow (P := E.P) w t o.type el i z ht hi hiz a0 len cap (xs.drop (off * k)) (by rw [hik]; exact hol) holds ad rows2.length c news (by rw [hik]; exact hl) hcell (by omega) (by omega) (growslice_fits (by omega) (by rw [hib]; exact hbl))
  have hge := grownCap_ge w (len + rows2.length) cap el
  have hcm2 : grownCap w (len + rows2.length) cap el ≤ maxLen := grownCap_le_maxLen w _ cap el (by simp only [maxLen]; omega)
  have hlen2 : (rows.drop off ++ rows2).length = len + rows2.length := by rw [List.length_append, List.length_drop]; omega
  have hnl : (xs.drop (off * k) ++ news).length = (len + rows2.length) * k := by rw [List.length_append, hol, hl, Nat.add_mul]
  refine fin 0 (rows.drop off ++ rows2) (.slice (some ⟨w.heap.size, 0, none⟩) (len + rows2.length) (grownCap w (len + rows2.length) cap el)) _ _ w.heap.size ⟨w.heap.size, 0, none⟩ _ _ (xs.drop (off * k) ++ news) hrun rfl (Nat.zero_add _) hge (by rw [Nat.zero_mul]) ?_ ?_ (.inr ⟨Nat.le_refl _, by simp⟩) ?_ (Nat.zero_le _) (by rw [hlen2, Nat.zero_add]) rfl
  ·rw [hlen2]
   refine ⟨hnl, .inr ⟨w.heap.size, _, _, rfl, hbw, heap_alloc_new w.drew _, hge, hcm2, ?_, ?_⟩⟩
   ·simp only [Array.size_append, List.size_toArray, size_zeroCells, hzs]
    rw [← List.length_append, hnl, ← Nat.add_mul]
    congr 1
    omega
   ·simp only [Array.toList_append, List.append_assoc]
    rw [← List.append_assoc, ← hnl]
    exact List.take_left
  ·exact Gr.of ⟨rfl, rfl, rfl, by simp, fun k2 hk2 _ => heap_alloc_old w.drew _ (by simpa using hk2)⟩ (run_drawn _ _ _ _ hrun)
  ·refine Flat.append (Flat.dropq (G := G) (w := w) hfl off) ?_ hfl2
   rw [hol, List.length_drop]
   congr 1
   omega
theorem aops_appq {t el : TypeId} {so x : Operand} {d : Nat} (hds : ops.map (·.dst) = ds) (hw : wantL ds st.env o.guard = some true) (hop : o.op = .call { callee := .builtin .append, args := #[so, x], argTypes := #[t, t] }) (hd : o.dst = some d)
  {n : Nm} {k off len : Nat} (hs : ev E st.env so = .osl n k off len) {xf : Bool} {rows2 : List D} (hx : ev E st.env x = .sl xf rows2)
  (he : elemS E.P t = some el) (hk : szOf E.P el = some k) {bs : Nat} (hbs : bytesOf E.P el = some bs) {z : Value} (hz : zeroOf E.P el = some z) (hzs : z.cells.size = k) (hk0 : 0 < k)
  (rows : List D) (hκ : get st.σ n = some (.arr el k rows)) (hend : off + len = rows.length) (hok : okRows k rows2) (hne : 0 < rows2.length) (h63 : rows.length + rows2.length ≤ 9223372036854775807 ∧ (rows.length + rows2.length) * bs ≤ 140737488355328)
  (h : ∀ off' rows', off' ≤ off → off' + (len + rows2.length) = rows'.length → rows'.drop off' = rows.drop off ++ rows2 → AOps E N ops g K r { env := (d, .osl ⟨g, d, 0⟩ k off' (len + rows2.length)) :: st.env, σ := (⟨g, d, 0⟩, .arr el k rows') :: del st.σ n }) : AOps E N ops g K (o :: r) st := by
 refine aops_x hds hw (topx_appendq hop hd hs hκ hend hx he hk hbs hz hzs hk0 hok hne h63.1 h63.2) ?_
 rintro v σ' ⟨off', rows', h0, h1, h2, rfl, rfl⟩
 have := h off' rows' h0 h1 h2
 rw [hd]
 exact this
end
section
variable {E : Ctx} {N : Nat} {st : St} {Q : Exit → St → Prop}
theorem awp_osl {c : Code} (t : Nat) (n : Nm) {el : TypeId} {k : Nat} {rows : List D} (ht : lk st.env t = some (.own n rows.length)) (hn : get st.σ n = some (.arr el k rows)) (hne : 0 < rows.length)
  (h : AWp E N c Q { env := (t, .osl n k 0 rows.length) :: st.env, σ := st.σ }) : AWp E N c Q st := by
 refine Sees.awp fun w0 _ G w a hr => ⟨G, ⟨(t, .osl n k 0 rows.length) :: st.env, st.σ⟩, ⟨hr.wf, fun u x hu => ?_, hr.objs, hr.defers⟩, .refl _ _ _ _, h⟩
 simp only [lk] at hu
 split at hu
 ·rename_i e
  subst e
  cases hu
  obtain ⟨h1, h2⟩ := hr.env _ _ ht
  refine ⟨h1, ?_⟩
  obtain ⟨v, hρ, ⟨xs, hown, _⟩, _⟩ := hr.objs.ob n _ hn
  generalize a.tmps.getD t undef = u at h2
  cases h2 with
  | own hρ' =>
   rw [hρ] at hρ'
   cases hρ'
   rcases hown.2 with ⟨_, h0⟩ | ⟨b, C, cur, hc, _, _, hnc, _⟩
   ·omega
   ·cases hc
    exact .osl hρ (Nat.zero_add _) hnc fun _ => by rw [Nat.zero_mul]
 ·exact hr.env u x hu
end
section
variable {E : Ctx} {N : Nat} {ops : List Oper} {ds : List (Option Tmp)} {g : Nat} {K : St → Prop} {st : St} {o : Oper} {r : List Oper}
theorem arr_lit {d : Nat} {e : Operand → D} {κ : Kp} {t el : TypeId} {n k : Nat} {ps : Array (Nat × Operand)} (hd : o.dst = some d) (hop : o.op = .buildSlice t n ps) (he : elemS E.P t = some el) (hk : szOf E.P el = some k)
  {rows : List D} (h : buildSliceD E.P t n (ps.toList.map fun p => (p.1, e p.2)) = some (.sl true rows)) : QOp E g o e κ (.own ⟨g, d, 0⟩ rows.length) [(⟨g, d, 0⟩, .arr el k rows)] := by
 unfold buildSliceD at h
 rw [he] at h
 simp only [hk] at h
 split at h
 ·rename_i k' z hk' hz
  cases hk'
  split at h
  ·rename_i hc
   obtain ⟨hzc, hle, hk0, hn0⟩ := hc
   cases hr : setRows k (List.replicate n (ofV z)) (ps.toList.map fun p => (p.1, e p.2)) with
   | none => rw [hr] at h; cases h
   | some rows' =>
    rw [hr] at h
    cases h
    intro w0 hA G w a hw hV ho hf K Q' hK
    obtain ⟨z1, z2⟩ := zeros_flat (G := G) (w := w) (n := n) hzc
    obtain ⟨cs', hfi, hs', hl', hfl⟩ := fillRows_run (G := G) (w := w) (k := k) (ps.toList.map fun p => (p.1, a.eval p.2)) (ps.toList.map fun p => (p.1, e p.2)) _ _ rows (by simp) (fun j p q hp hq => by
     simp only [List.getElem?_map, Option.map_eq_some_iff] at hp hq
     obtain ⟨y, hy, rfl⟩ := hp
     obtain ⟨y', hy', rfl⟩ := hq
     rw [hy] at hy'
     cases hy'
     refine ⟨rfl, hV y.2 ?_⟩
     simp only [hop, Op.operands, List.mem_toArray, List.mem_map]
     exact ⟨y, List.mem_of_getElem? hy, rfl⟩) z1 z2 hr
    have hrun : (execOp a.eval o).run E.P w = .ok (.value (.slice (some ⟨w.heap.size, 0, none⟩) n n)) (w.alloc (.cells cs' el)) := by
     have h24 : ¬ (n * k > 2 ^ 24) := by omega
     have h0 : ¬ (n * k = 0) := by
      have := Nat.mul_pos hn0 hk0
      omega
     have hf' : Instr.fill (fun i => some (i * k, k)) (Array.map (fun x => z.cells[x % z.cells.size]!) (Array.range (n * k))) (List.map (fun p => (p.1, a.eval p.2)) ps.toList) = some cs' := hfi
     simp only [execOp, hop, Sem.run_bind, Instr.buildSlice, run_underlying (elemS_spec he), Result.andThen_ok, run_sizeOf hk, h24, h0, ↓reduceIte, run_zeroValue hz, Sem.run_pure, Array.toList_map, hf', newRow, run_newObj]
     rfl
    have hln : rows.length = n := by simpa using hl'
    obtain ⟨hg, hfresh⟩ := hf d hd
    have hgr : Gr w (w.alloc (.cells cs' el)) none := gr_alloc w _
    have hnew : (w.alloc (.cells cs' el)).heap[w.heap.size]? = some (.cells cs' el (0, 0)) := heap_alloc_n w _
    have hsz : (w.alloc (.cells cs' el)).heap.size = w.heap.size + 1 := World.size_alloc _ _
    have hcl : cs'.toList.length = rows.length * k := by simpa using hs'
    obtain ⟨h1, h2, h3⟩ := new_obj hw ho (hfresh 0) hg (v := .slice (some ⟨w.heap.size, 0, none⟩) n n) (ob := .arr el k rows) hgr (fun b hb => by simp [blk] at hb; omega)
     ⟨cs'.toList, by
      rw [hln]
      refine ⟨by rw [hcl, hln], .inr ⟨w.heap.size, n, cs', rfl, hw.below.size, hnew, Nat.le_refl _, ?_, by rw [hs', hln], ?_⟩⟩
      ·have : n ≤ n * k := Nat.le_mul_of_pos_right n hk0
       simp only [maxLen]
       omega
      ·rw [← hln, ← hcl, List.take_length], fun i r hi => ⟨(hfl i r hi).1, fun j x hx => by
      obtain ⟨y, hy, hyv⟩ := (hfl i r hi).2 j x hx
      refine ⟨y, by simpa using hy, ?_⟩
      exact hyv.upd (hfresh 0) fun b hF => heap_alloc_o w _ b (hw.lt b hF)⟩⟩
    refine op_val hrun ?_
    refine hK _ _ _ h1 ?_ (by rw [get_single]; exact h2) ?_
    ·rw [hln]
     exact .own (by simp [Gh.upd])
    ·rw [get_single]
     exact h3.weaken fun n _ hn => by subst hn; exact ⟨rfl, hd⟩
  ·cases h
 ·cases h
theorem aops_lit {d : Nat} {t el : TypeId} {n k : Nat} {ps : Array (Nat × Operand)} (hds : ops.map (·.dst) = ds) (hw : wantL ds st.env o.guard = some true) (hd : o.dst = some d) (hop : o.op = .buildSlice t n ps) (he : elemS E.P t = some el) (hk : szOf E.P el = some k)
  (rows : List D) (hb : buildSliceD E.P t n (ps.toList.map fun p => (p.1, ev E st.env p.2)) = some (.sl true rows)) (h : AOps E N ops g K r { env := (d, .own ⟨g, d, 0⟩ rows.length) :: st.env, σ := (⟨g, d, 0⟩, .arr el k rows) :: st.σ }) : AOps E N ops g K (o :: r) st := by
 refine aops_q (by rw [← wantL_eq hds]; exact hw) (arr_lit hd hop he hk hb) ?_
 rw [hd]
 exact h
end
end Go.Ab
namespace Go.Ab
open Go Go.RowKit
section
variable {E : Ctx} {N : Nat} {Q : Exit → St → Prop} {st : St}
def noGotoQ (Q : Exit → St → Prop) : Exit → St → Prop
 | .goto _, _ => False
 | e, s => Q e s
theorem awp_scope {c : Code} (hE : E.rd = false) (h : AWp E N c (noGotoQ Q) st) : AWp E N (.scope c) Q st := by
 intro w0 hA G w a hN hr r hd
 obtain rfl := hd hE
 rw [fr_none]
 refine wpIn_wide.2 (wp_scope_straight ?_)
 have h2 := h w0 hA G w a hN hr none hd
 rw [fr_none] at h2
 refine wp_mono (wpIn_wide.1 h2) ?_
 rintro e a' w' ⟨G', st', k1, k2, k3, k4⟩
 cases e with
 | goto l => exact k4.elim
 | _ => exact ⟨G', st', k1, k2, k3, k4⟩
theorem awp_label {l : Nat} (h : Q .normal st) : AWp E N (.label l) Q st :=
 fun _ _ G _ _ hN hr _ _ => wpIn_label ⟨G, st, hN, hr, .refl _ _ _ _, h⟩
end
end Go.Ab
namespace Go.Proofs.T
open Go Go.Ab Go.RowKit
set_option maxRecDepth 100000 in
theorem refHas_calls (L : List Nd) (hL : L.length ≤ 1000000) (x : Nd) (g d : Nat) : ACalls E 33 [slNd L, encNd x] [] g d (dB (memB x L)) [] := by
 refine acalls_of_awp (fn := Tryz.f33) (N := 18) Tryz.call33 Tryz.func33 rfl rfl (by simp) ?_
 simp only [go_sem]
 refine awp_seq_k (fun K1 hK1 => ?_)
 refine awp_plain 2 (by kernel_rfl) rfl (fun g0 hg0 => ?_)
 simp only [go_sem]
 refine hK1 _ ?_
 refine awp_seq_k (fun K2 hK2 => ?_)
 refine awp_seq_k (fun K3 hK3 => ?_)
 refine awp_plain 1 (by kernel_rfl) rfl (fun g1 hg1 => ?_)
 simp only [go_sem]
 refine hK3 _ ?_
 refine awp_block ?_
 refine awp_loop (fun m st => ∃ k, k ≤ L.length ∧ m = L.length - k ∧ memB x (L.take k) = false ∧ Le { env := [(0, slNd L), (3, .ptr ⟨g0, 3, 0⟩ 0), (5, dN k)], σ := [(⟨g0, 3, 0⟩, .box 32 (ndC x)) ] } st) L.length ?_ ?_
 ·refine ⟨0, Nat.zero_le _, rfl, by simp [memB], le_of ?_⟩
  simp only [go_sem]
  all_goals first | done | exact rfl | exact ⟨rfl, rfl⟩ | trivial | omega
 ·rintro m st ⟨k, hk, rfl, hno, hle⟩
  refine awp_keep hle ?_
  clear hle
  refine awp_seq_k (fun K4 hK4 => ?_)
  refine awp_seq_k (fun K5 hK5 => ?_)
  by_cases hlt : k < L.length
  ·have hgm := getM (f := encNd) hlt
   have hms := @memB_succ x L k hlt
   have hin := List.getElem_mem hlt
   generalize L[k] = Y at *
   refine awp_plain 4 (by kernel_rfl) rfl (fun g2 hg2 => ?_)
   simp only [go_sem, hlt, decide_true]
   refine hK5 _ ?_
   refine awp_t rfl ?_
   refine awp_skip ?_
   refine hK4 _ ?_
   refine awp_seq_k (fun K6 hK6 => ?_)
   refine awp_block ?_
   refine awp_seq_k (fun K7 hK7 => ?_)
   by_cases hY : Y = x
   ·have hT : memB x L = true := memB_true.2 (hY ▸ hin)
    subst hY
    refine awp_anyq (by kernel_rfl) rfl (fun g4 hg4 ops4 KR4 hops4 hKR4 => ?_)
    refine qrun_last 6 hops4 ?_
    simp only [go_sem, hgm, decide_true]
    refine hKR4 _ ?_
    refine hK7 _ ?_
    refine awp_t rfl ?_
    refine awp_seq_k (fun K8 hK8 => ?_)
    refine awp_plain 1 (by kernel_rfl) rfl (fun g5 hg5 => ?_)
    simp only [go_sem]
    refine hK8 _ ?_
    refine awp_ret ?_
    refine ends_ev rfl ?_
    simp only [go_sem]
    exact Co.of_eq (by rw [hT])
   ·have hne := ndEq hY
    refine awp_anyq (by kernel_rfl) rfl (fun g4 hg4 ops4 KR4 hops4 hKR4 => ?_)
    refine qrun_last 6 hops4 ?_
    simp only [go_sem, hgm, hne, decide_false]
    refine hKR4 _ ?_
    refine hK7 _ ?_
    refine awp_f rfl ?_
    refine awp_skip ?_
    refine hK6 _ ?_
    refine awp_plain 3 (by kernel_rfl) rfl (fun g3 hg3 => ?_)
    simp only [go_sem]
    try simp (disch := omega) only [wrapN]
    refine ⟨_, ?_, k + 1, hlt, rfl, Bool.eq_false_iff.2 fun e => (hms.1 e).elim (fun e => by rw [hno] at e; cases e) hY, le_of ?_⟩
    ·omega
    simp only [go_sem]
    all_goals first | done | exact rfl | exact ⟨rfl, rfl⟩ | trivial | omega
  ·have : k = L.length := by omega
   subst this
   rw [List.take_length] at hno
   refine awp_plain 4 (by kernel_rfl) rfl (fun g2 hg2 => ?_)
   simp only [go_sem, hlt, decide_false]
   refine hK5 _ ?_
   refine awp_f rfl ?_
   refine awp_exit ?_
   refine hK2 _ ?_
   refine awp_seq_k (fun K9 hK9 => ?_)
   refine awp_plain 1 (by kernel_rfl) rfl (fun g6 hg6 => ?_)
   simp only [go_sem]
   refine hK9 _ ?_
   refine awp_ret ?_
   refine ends_ev rfl ?_
   simp only [go_sem]
   exact Co.of_eq (by rw [hno])
set_option maxRecDepth 100000 in
theorem refHasO_calls (L : List Nd) (hL : L.length ≤ 1000000) (x : Nd) (q c : Nat) (g d : Nat) : ACalls E 33 [.own ⟨q, c, 0⟩ L.length, encNd x] [(⟨q, c, 0⟩, .arr 32 3 (L.map encNd))] g d (dB (memB x L)) [(⟨q, c, 0⟩, .arr 32 3 (L.map encNd))] := by
 refine acalls_of_awp (fn := Tryz.f33) (N := 18) Tryz.call33 Tryz.func33 rfl rfl (by simp) ?_
 simp only [go_sem]
 refine awp_seq_k (fun K1 hK1 => ?_)
 refine awp_plain 2 (by kernel_rfl) rfl (fun g0 hg0 => ?_)
 simp only [go_sem]
 refine hK1 _ ?_
 refine awp_seq_k (fun K2 hK2 => ?_)
 refine awp_seq_k (fun K3 hK3 => ?_)
 have hn0_q : g0 ≠ q := fresh_g hg0 c 0 (by simp [go_sem])
 refine awp_plain 1 (by kernel_rfl) rfl (fun g1 hg1 => ?_)
 simp only [go_sem]
 refine hK3 _ ?_
 refine awp_block ?_
 refine awp_loop (fun m st => ∃ k, k ≤ L.length ∧ m = L.length - k ∧ memB x (L.take k) = false ∧ Le { env := [(0, .own ⟨q, c, 0⟩ L.length), (3, .ptr ⟨g0, 3, 0⟩ 0), (5, dN k)], σ := [(⟨g0, 3, 0⟩, .box 32 (ndC x)) , (⟨q, c, 0⟩, .arr 32 3 (L.map encNd))] } st) L.length ?_ ?_
 ·refine ⟨0, Nat.zero_le _, rfl, by simp [memB], le_of ?_⟩
  simp only [go_sem, hn0_q, Ne.symm hn0_q]
  all_goals first | done | exact rfl | exact ⟨rfl, rfl⟩ | trivial | omega
 ·rintro m st ⟨k, hk, rfl, hno, hle⟩
  refine awp_keep hle ?_
  clear hle
  refine awp_seq_k (fun K4 hK4 => ?_)
  refine awp_seq_k (fun K5 hK5 => ?_)
  by_cases hlt : k < L.length
  ·have hgm := getM (f := encNd) hlt
   have hms := @memB_succ x L k hlt
   have hin := List.getElem_mem hlt
   generalize L[k] = Y at *
   refine awp_plain 4 (by kernel_rfl) rfl (fun g2 hg2 => ?_)
   simp only [go_sem, hlt, decide_true]
   refine hK5 _ ?_
   refine awp_t rfl ?_
   refine awp_skip ?_
   refine hK4 _ ?_
   refine awp_seq_k (fun K6 hK6 => ?_)
   refine awp_block ?_
   refine awp_seq_k (fun K7 hK7 => ?_)
   by_cases hY : Y = x
   ·have hT : memB x L = true := memB_true.2 (hY ▸ hin)
    subst hY
    refine awp_anyq (by kernel_rfl) rfl (fun g4 hg4 ops4 KR4 hops4 hKR4 => ?_)
    refine qrun_last 6 hops4 ?_
    simp only [go_sem, hlt, hgm, decide_true, hn0_q, Ne.symm hn0_q]
    refine hKR4 _ ?_
    refine hK7 _ ?_
    refine awp_t rfl ?_
    refine awp_seq_k (fun K8 hK8 => ?_)
    refine awp_plain 1 (by kernel_rfl) rfl (fun g5 hg5 => ?_)
    simp only [go_sem]
    refine hK8 _ ?_
    refine awp_ret ?_
    refine ends_keep rfl (by simp [go_sem, hn0_q]) ?_
    simp only [go_sem]
    exact Co.of_eq (by rw [hT])
   ·have hne := ndEq hY
    refine awp_anyq (by kernel_rfl) rfl (fun g4 hg4 ops4 KR4 hops4 hKR4 => ?_)
    refine qrun_last 6 hops4 ?_
    simp only [go_sem, hlt, hgm, hne, decide_false, hn0_q, Ne.symm hn0_q]
    refine hKR4 _ ?_
    refine hK7 _ ?_
    refine awp_f rfl ?_
    refine awp_skip ?_
    refine hK6 _ ?_
    refine awp_plain 3 (by kernel_rfl) rfl (fun g3 hg3 => ?_)
    simp only [go_sem]
    try simp (disch := omega) only [wrapN]
    refine ⟨_, ?_, k + 1, hlt, rfl, Bool.eq_false_iff.2 fun e => (hms.1 e).elim (fun e => by rw [hno] at e; cases e) hY, le_of ?_⟩
    ·omega
    simp only [go_sem, hn0_q, Ne.symm hn0_q]
    all_goals first | done | exact rfl | exact ⟨rfl, rfl⟩ | trivial | omega
  ·have : k = L.length := by omega
   subst this
   rw [List.take_length] at hno
   refine awp_plain 4 (by kernel_rfl) rfl (fun g2 hg2 => ?_)
   simp only [go_sem, hlt, decide_false]
   refine hK5 _ ?_
   refine awp_f rfl ?_
   refine awp_exit ?_
   refine hK2 _ ?_
   refine awp_seq_k (fun K9 hK9 => ?_)
   refine awp_plain 1 (by kernel_rfl) rfl (fun g6 hg6 => ?_)
   simp only [go_sem]
   refine hK9 _ ?_
   refine awp_ret ?_
   refine ends_keep rfl (by simp [go_sem, hn0_q]) ?_
   simp only [go_sem]
   exact Co.of_eq (by rw [hno])
end Go.Proofs.T
