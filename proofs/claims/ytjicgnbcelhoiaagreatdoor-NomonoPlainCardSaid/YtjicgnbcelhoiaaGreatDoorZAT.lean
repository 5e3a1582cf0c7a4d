/- A part of the proof, under no conditions of its own: ZAT. -/
import Derived.Test.YtjicgnbcelhoiaaGreatDoorZAS
import Derived.Test.YtjicgnbcelhoiaaGreatDoorZAM
import Derived.Test.YtjicgnbcelhoiaaGreatDoorZAK
namespace Go.Proofs.T
open Go Go.Ab Go.RowKit
section
variable {s s' : Sc} (h : ∀ v, lookS s v = lookS s' v)
include h
theorem hdE_congr (to : Nd) (t : Ty) (ins : Bool) : hdE s to t ins = hdE s' to t ins := by
 unfold hdE
 rw [h]
theorem inE_congr (to : Nd) : ∀ (t : Ty) (ins : Bool), inE s to t ins = inE s' to t ins := by
 refine Ty.ind fun t ih ins => ?_
 rw [inE_eq, inE_eq, hdE_congr h]
 congr 1
 have : ∀ l : List Ty, (∀ x ∈ l, ∀ ins, inE s to x ins = inE s' to x ins) → (l.flatMap fun t => inE s to t true) = l.flatMap fun t => inE s' to t true := by
  intro l
  induction l with
  | nil => intro _; rfl
  | cons x r ihr =>
   intro hl
   rw [List.flatMap_cons, List.flatMap_cons, hl x List.mem_cons_self, ihr fun y hy => hl y (List.mem_cons_of_mem _ hy)]
 exact this t.args ih
theorem argsE_congrV : ∀ (l : List Ty), (∀ x ∈ l, visE s x = visE s' x) → ∀ (b : Bool) (o : Str) (i : Nat), argsE s l b o i = argsE s' l b o i
 | [], _, _, _, _ => by simp [argsE]
 | x :: r, hl, b, o, i => by
  simp only [argsE]
  rw [inE_congr h, hl x List.mem_cons_self, argsE_congrV r (fun y hy => hl y (List.mem_cons_of_mem _ hy))]
theorem visE_congr : ∀ t : Ty, visE s t = visE s' t := by
 refine Ty.ind fun t ih => ?_
 rw [visE_eq, visE_eq]
 exact argsE_congrV h t.args ih _ _ _
theorem argsE_congr (l : List Ty) (b : Bool) (o : Str) (i : Nat) : argsE s l b o i = argsE s' l b o i := argsE_congrV h l (fun x _ => visE_congr h x) b o i
theorem siE_congr (x : Sig) : siE s x = siE s' x := by
 have hv : visE s = visE s' := funext (visE_congr h)
 unfold siE
 rw [hv]
theorem exE_congr (x : Ex) : exE s x = exE s' x := by
 unfold exE
 rw [visE_congr h, argsE_congr h]
end
theorem look_put0 (b : Bool) (o : Str) (ns : List Str) (v : Str) : lookS (putS2 [] b o ns) v = lookS (scN b o ns) v := by
 unfold putS2
 rw [lookS_adds, List.nil_append]
theorem look_put {s s' : Sc} (h : ∀ v, lookS s v = lookS s' v) (b : Bool) (o : Str) (ns : List Str) (v : Str) : lookS (putS2 s b o ns) v = lookS (s' ++ scN b o ns) v := by
 unfold putS2
 rw [lookS_adds, lookS_app, lookS_app, h]
theorem visE_zero (s : Sc) : visE s zeroTy = [] := by
 rw [visE_eq]
 rfl
theorem rightNodes : ∀ e : Ex, rightEx e = true → ∀ x ∈ nodesEx e, rightEx x = true := by
 refine Ex.ind fun e ih he x hx => ?_
 rw [nodesEx_eq] at hx
 rcases List.mem_cons.1 hx with rfl | hx
 ·exact he
 ·rw [nodesExs_flat] at hx
  obtain ⟨y, hy, hx⟩ := List.mem_flatMap.1 hx
  rw [rightEx_eq, Bool.and_eq_true] at he
  exact ih y hy (List.all_eq_true.1 he.1 y hy) x hx
theorem right_targs {x : Ex} (h : rightEx x = true) (hk : x.kind ≠ 2) : x.targs = [] := by
 rw [rightEx_eq, Bool.and_eq_true] at h
 have h2 := h.2
 unfold headOk at h2
 rw [Bool.and_eq_true] at h2
 have h3 := List.all_eq_true.1 h2.1
 match ht : x.targs with
 | [] => rfl
 | t :: r =>
  rw [ht] at h3
  have := h3 t List.mem_cons_self
  rw [Bool.and_eq_true] at this
  exact absurd (of_decide_eq_true this.1) hk
theorem right_body {d : Dec} (h : rightDe d = true) (h3 : d.kind = 3) : rightEx d.body = true := by
 unfold rightDe at h
 simp only [Bool.and_eq_true] at h
 have ht := h.2.2.2.2.2
 unfold tailDe at ht
 rw [if_pos h3] at ht
 unfold methDe at ht
 simp only [Bool.and_eq_true] at ht
 exact ht.2.2.2
theorem rdE_eq {d : Dec} (h : rightDe d = true) : rdE d = deE d := by
 unfold rdE deE
 by_cases h3 : d.kind = 3
 ·rw [if_pos h3, if_pos h3]
  unfold rmE dmE
  have hl : ∀ v, lookS (rmS d) v = lookS (dmS d) v := fun v => by
   unfold rmS dmS fmS fmN
   exact (look_put (look_put0 false d.name d.vars) true d.sig.name (d.sig.formals.map fun f : Formal => f.name) v).symm
  rw [siE_congr hl]
  congr 1
  have hb := rightNodes d.body (right_body h h3)
  have : ∀ l : List Ex, (∀ x ∈ l, rightEx x = true) → l.flatMap (rxE (rmS d)) = l.flatMap (exE (dmS d)) := by
   intro l
   induction l with
   | nil => intro _; rfl
   | cons x r ih =>
    intro hr
    rw [List.flatMap_cons, List.flatMap_cons, ih fun y hy => hr y (List.mem_cons_of_mem _ hy), ← exE_congr hl]
    congr 1
    unfold rxE exE
    by_cases hk : x.kind = 2
    ·rw [if_pos hk]
    ·rw [if_neg hk, right_targs (hr x List.mem_cons_self) hk]
     simp [argsE]
  exact this _ hb
 ·rw [if_neg h3, if_neg h3]
  unfold rsE dsE
  have hl : ∀ v, lookS (fmN false d.name d.formals) v = lookS (fmS [] false d.name d.formals) v := fun v => (look_put0 false d.name _ v).symm
  have hv := funext (visE_congr hl)
  have hsg : (fun x : Sig => siE (fmN false d.name d.formals ++ fmN true x.name x.formals) x) = fun x => siE (fmS (fmS [] false d.name d.formals) true x.name x.formals) x := by
   funext x
   exact siE_congr (fun v => (look_put (fun v => (hl v).symm) true x.name (x.formals.map (·.name)) v).symm) x
  rw [hsg]
  congr 1
  unfold siE
  simp only [visE_zero, List.append_nil]
  rw [hv]
theorem rpE_eq {p : Prg} (h : rightPr p = true) : rpE p = prE p := by
 unfold rightPr at h
 rw [Bool.and_eq_true] at h
 have hr := List.all_eq_true.1 h.1
 unfold rpE prE
 generalize p.decls = l at *
 clear h
 induction l with
 | nil => rfl
 | cons x r ih => rw [List.flatMap_cons, List.flatMap_cons, rdE_eq (hr x List.mem_cons_self), ih fun y hy => hr y (List.mem_cons_of_mem _ hy)]
theorem hdE_len (s : Sc) (to : Nd) (t : Ty) (ins : Bool) : (hdE s to t ins).length ≤ 1 := by
 unfold hdE
 split
 ·split <;> simp
 ·simp
theorem inE_len (s : Sc) (to : Nd) : ∀ (t : Ty) (ins : Bool), (inE s to t ins).length ≤ (namesTy t).length := by
 refine Ty.ind fun t ih ins => ?_
 have h1 := hdE_len s to t ins
 have : ∀ l : List Ty, (∀ x ∈ l, ∀ ins, (inE s to x ins).length ≤ (namesTy x).length) → (l.flatMap fun t => inE s to t true).length ≤ wN l := by
  intro l
  induction l with
  | nil => intro _; simp
  | cons x r ihr =>
   intro hl
   have := hl x List.mem_cons_self true
   have := ihr fun y hy => hl y (List.mem_cons_of_mem _ hy)
   rw [List.flatMap_cons, List.length_append, wN_cons]
   omega
 have := this t.args ih
 rw [inE_eq, List.length_append, namesTy_eq, List.length_cons]
 unfold wN at this
 omega
theorem argsE_cnt (s : Sc) (M : Nat) : ∀ (l : List Ty), (∀ x ∈ l, (visE s x).length ≤ (namesTy x).length * M) → ∀ (b : Bool) (o : Str) (i : Nat), (argsE s l b o i).length ≤ wN l * (M + 1)
 | [], _, _, _, _ => by simp [argsE]
 | x :: r, hl, b, o, i => by
  have h1 := hl x List.mem_cons_self
  have h2 := argsE_cnt s M r (fun y hy => hl y (List.mem_cons_of_mem _ hy)) b o (i + 1)
  have h3 := inE_len s ⟨b, o, (i : Int)⟩ x false
  simp only [argsE, List.length_append]
  rw [wN_cons, Nat.add_mul, Nat.mul_add (namesTy x).length]
  omega
theorem visE_cnt (s : Sc) : ∀ (t : Ty) (M : Nat), (namesTy t).length ≤ M → (visE s t).length ≤ (namesTy t).length * M := by
 refine Ty.ind fun t ih M hM => ?_
 rw [namesTy_eq, List.length_cons] at hM ⊢
 change wN t.args + 1 ≤ M at hM
 change _ ≤ (wN t.args + 1) * M
 rw [visE_eq]
 have := argsE_cnt s (M - 1) t.args (fun x hx => ih x hx (M - 1) (by have := wN_mem hx; omega)) false t.name 0
 rw [show M - 1 + 1 = M by omega] at this
 rw [Nat.add_mul]
 omega
theorem flat_cnt {α : Type} (f : α → List Ed) (g : α → List Ty) (C : Nat) : ∀ l : List α, (∀ x ∈ l, (f x).length ≤ wN (g x) * C) → (l.flatMap f).length ≤ wN (l.flatMap g) * C
 | [], _ => by simp
 | x :: r, h => by
  have h1 := h x List.mem_cons_self
  have h2 := flat_cnt f g C r fun y hy => h y (List.mem_cons_of_mem _ hy)
  rw [List.flatMap_cons, List.flatMap_cons, List.length_append, wN_app, Nat.add_mul]
  omega
theorem vis_cnt {α : Type} (s : Sc) (f : α → Ty) (M : Nat) : ∀ l : List α, (∀ x ∈ l, (namesTy (f x)).length ≤ M) → (l.flatMap fun x => visE s (f x)).length ≤ wN (l.map f) * (M + 1)
 | [], _ => by simp
 | x :: r, h => by
  have h1 := visE_cnt s (f x) M (h x List.mem_cons_self)
  have h2 := vis_cnt s f M r fun y hy => h y (List.mem_cons_of_mem _ hy)
  rw [List.flatMap_cons, List.map_cons, List.length_append, wN_cons, Nat.add_mul, Nat.mul_add (namesTy (f x)).length]
  omega
theorem siE_cnt (s : Sc) (x : Sig) (M : Nat) (h : wN (siTys x) ≤ M) : (siE s x).length ≤ wN (siTys x) * (M + 1) := by
 unfold siTys at h ⊢
 simp only [wN_app, wN_cons, wN_nil] at h ⊢
 have h1 := vis_cnt s (fun f : Formal => f.bound) M x.formals fun f hf => by
  have := wN_mem (List.mem_map.2 ⟨f, hf, rfl⟩ : f.bound ∈ x.formals.map (·.bound))
  omega
 have h2 := vis_cnt s (fun f : Param => f.type) M x.params fun f hf => by
  have := wN_mem (List.mem_map.2 ⟨f, hf, rfl⟩ : f.type ∈ x.params.map (·.type))
  omega
 have h3 := visE_cnt s x.result M (by omega)
 unfold siE
 rw [List.length_append, List.length_append]
 simp only [Nat.add_zero, Nat.add_mul]
 rw [Nat.mul_add (namesTy x.result).length]
 omega
theorem exE_cnt (s : Sc) (x : Ex) (M : Nat) (h : wN (x.type :: x.targs) ≤ M) : (exE s x).length ≤ wN (x.type :: x.targs) * (M + 1) := by
 rw [wN_cons] at h ⊢
 have h1 := visE_cnt s x.type M (by omega)
 have h2 := argsE_cnt s M x.targs (fun t ht => visE_cnt s t M (by have := wN_mem ht; omega)) true x.name 0
 unfold exE
 rw [List.length_append, Nat.add_mul, Nat.mul_add (namesTy x.type).length]
 split
 ·omega
 ·simp only [List.length_nil]
  omega
theorem deE_cnt (d : Dec) (M : Nat) (h : wN (deTys d) ≤ M) : (deE d).length ≤ wN (deTys d) * (M + 1) := by
 unfold deTys at h ⊢
 simp only [wN_app] at h ⊢
 simp only [Nat.add_mul]
 unfold deE
 by_cases h3 : d.kind = 3
 ·rw [if_pos h3]
  unfold dmE
  have h1 := siE_cnt (dmS d) d.sig M (by omega)
  have h2 := flat_cnt (exE (dmS d)) (fun x => x.type :: x.targs) (M + 1) (nodesEx d.body) fun x hx => exE_cnt _ x M (by
   have : ∀ l : List Ex, x ∈ l → wN (x.type :: x.targs) ≤ wN (l.flatMap fun x => x.type :: x.targs) := by
    intro l
    induction l with
    | nil => intro hm; cases hm
    | cons y r ih =>
     intro hm
     rw [List.flatMap_cons, wN_app]
     rcases List.mem_cons.1 hm with rfl | hm
     ·omega
     ·have := ih hm
      omega
   have := this _ hx
   change _ ≤ wN (exTys d.body) at this
   omega)
  rw [List.length_append]
  change _ ≤ wN (exTys d.body) * _ at h2
  omega
 ·rw [if_neg h3]
  unfold dsE
  have h1 := vis_cnt (fmS [] false d.name d.formals) (fun f : Formal => f.bound) M d.formals fun f hf => by
   have := wN_mem (List.mem_map.2 ⟨f, hf, rfl⟩ : f.bound ∈ d.formals.map (·.bound))
   omega
  have h2 := vis_cnt (fmS [] false d.name d.formals) (fun f : Param => f.type) M d.fields fun f hf => by
   have := wN_mem (List.mem_map.2 ⟨f, hf, rfl⟩ : f.type ∈ d.fields.map (·.type))
   omega
  have h4 := flat_cnt (fun x : Sig => siE (fmS (fmS [] false d.name d.formals) true x.name x.formals) x) siTys (M + 1) d.sigs fun x hx => siE_cnt _ x M (by
   have : ∀ l : List Sig, x ∈ l → wN (siTys x) ≤ wN (l.flatMap siTys) := by
    intro l
    induction l with
    | nil => intro hm; cases hm
    | cons y r ih =>
     intro hm
     rw [List.flatMap_cons, wN_app]
     rcases List.mem_cons.1 hm with rfl | hm
     ·omega
     ·have := ih hm
      omega
   have := this _ hx
   omega)
  rw [List.length_append, List.length_append]
  omega
theorem prE_cnt {p : Prg} (h : wN (prTys p) ≤ 600) : (prE p).length ≤ 1000000 := by
 have h1 := flat_cnt deE deTys 601 p.decls fun d hd => deE_cnt d 600 (by have := wN_dec hd; omega)
 unfold prE
 have : wN (p.decls.flatMap deTys) ≤ 600 := by
  unfold prTys at h
  rw [wN_app] at h
  omega
 have := Nat.mul_le_mul_right 601 this
 omega
end Go.Proofs.T
namespace Go.Proofs.T
open Go Go.Ab Go.RowKit
def txt (n : Nd) (u : Nat) : Str := (if n.method then ⟨#[46]⟩ else ByteArray.empty) ++ n.name ++ ⟨#[58]⟩ ++ decS u
theorem _root_.Go.Ab.Co.two {x : Bool} {r1 r1' r2 r2' : D} (h1 : CoL r1.cells r1'.cells) (h2 : CoL r2.cells r2'.cells) : Co (.sl x [r1, r2]) (.sl false [r1', r2']) :=
 Co.sl (fun h => nomatch h) rfl fun i r r' hr hr' => by
  match i, hr, hr' with
  | 0, hr, hr' => cases hr; cases hr'; exact h1
  | 1, hr, hr' => cases hr; cases hr'; exact h2
  | i + 2, hr, hr' => simp at hr
def sW : Str := ⟨#[87]⟩
def sa : Str := ⟨#[97]⟩
def sm : Str := ⟨#[109]⟩
def tA : Ty := .mk sa [] 0
def tAny : Ty := .mk ⟨#[65, 110, 121]⟩ [] 0
def tWW : Ty := .mk sW [.mk sW [tA] 0] 0
def d0 : Dec := ⟨1, sW, [⟨sa, tAny, 0⟩], [], [], ByteArray.empty, [], zeroSi, zeroEx, 0⟩
def m0 : Dec := ⟨3, sW, [], [], [], ⟨#[119]⟩, [sa], ⟨sm, [], [], tAny, 0⟩, .mk 3 ByteArray.empty tWW [] [] 0, 0⟩
def p0 : Prg := ⟨[d0, m0], .mk 1 ⟨#[120]⟩ zeroTy [] [] 0⟩
def n0 : Nd := ⟨false, sW, 0⟩
theorem smTy1 (n : Str) (h : n.size ≤ 100) : smTy (.mk n [] 0) := (smTy_iff _).2 ⟨by show n.size ≤ _; omega, by simp [Ty.args], by simp [Ty.args]⟩
theorem smA : smTy tA := smTy1 _ (by decide)
theorem smAny : smTy tAny := smTy1 _ (by decide)
theorem smWW : smTy tWW := (smTy_iff _).2 ⟨by decide, by decide, fun x hx => by
 rw [List.mem_singleton.1 hx]
 exact (smTy_iff _).2 ⟨by decide, by decide, fun y hy => by rw [List.mem_singleton.1 hy]; exact smA⟩⟩
theorem smZSi : smSi zeroSi := ⟨show (0 : Nat) ≤ 1000000 by decide, ⟨show (0 : Nat) ≤ 1000000 by decide, fun f hf => nomatch hf⟩, ⟨show (0 : Nat) ≤ 1000000 by decide, fun f hf => nomatch hf⟩, smZeroTy⟩
theorem smZEx : smEx zeroEx := (smEx_iff _).2 ⟨show (0 : Nat) ≤ 1000000 by decide, smZeroTy, ⟨show (0 : Nat) ≤ 1000000 by decide, fun x hx => nomatch hx⟩, show (0 : Nat) ≤ 1000000 by decide, fun x hx => nomatch hx⟩
theorem sm_p0 : smPr p0 := by
 refine ⟨⟨by decide, fun e h => ?_⟩, (smEx_iff _).2 ⟨by decide, smZeroTy, ⟨by decide, fun x hx => nomatch hx⟩, by decide, fun x hx => nomatch hx⟩⟩
 rcases List.mem_cons.1 h with rfl | h
 ·refine ⟨by decide, ⟨by decide, fun f hf => ?_⟩, ⟨by decide, fun f hf => nomatch hf⟩, ⟨by decide, fun f hf => nomatch hf⟩, by decide, ⟨by decide, fun f hf => nomatch hf⟩, smZSi, smZEx⟩
  rw [List.mem_singleton.1 hf]
  exact ⟨by decide, smAny⟩
 ·rw [List.mem_singleton.1 h]
  refine ⟨by decide, ⟨by decide, fun f hf => nomatch hf⟩, ⟨by decide, fun f hf => nomatch hf⟩, ⟨by decide, fun f hf => nomatch hf⟩, by decide, ⟨by decide, fun f hf => ?_⟩, ⟨by decide, ⟨by decide, fun f hf => nomatch hf⟩, ⟨by decide, fun f hf => nomatch hf⟩, smAny⟩,
   (smEx_iff _).2 ⟨by decide, smWW, ⟨by decide, fun x hx => nomatch hx⟩, by decide, fun x hx => nomatch hx⟩⟩
  rw [List.mem_singleton.1 hf]
  decide
theorem e_d0 : deE d0 = [] := by
 have h : visE (fmS [] false d0.name d0.formals) tAny = [] := by rw [visE_eq]; rfl
 unfold deE
 rw [if_neg (by decide)]
 unfold dsE
 simp only [d0, List.flatMap_cons, List.flatMap_nil, List.append_nil]
 exact h
theorem e_m0 : deE m0 = [⟨n0, n0, true⟩, ⟨n0, n0, false⟩] := by
 have hl : ∀ v, lookS (dmS m0) v = lookS [(sa, n0)] v := fun v => by
  have h := look_put (look_put0 false m0.name m0.vars) true m0.sig.name (m0.sig.formals.map fun f : Formal => f.name) v
  exact h
 have hne : ¬ sa = sW := by decide
 have la : lookS [(sa, n0)] sa = some n0 := by simp [lookS]
 have lW : lookS [(sa, n0)] sW = none := by simp [lookS, hne]
 unfold deE
 rw [if_pos (by decide)]
 unfold dmE
 rw [siE_congr hl]
 have hx : (nodesEx m0.body).flatMap (exE (dmS m0)) = exE [(sa, n0)] m0.body := by
  rw [nodesEx_eq, show m0.body.kids = [] from rfl]
  simp [nodesExs, exE_congr hl]
 rw [hx]
 have h1 : siE [(sa, n0)] m0.sig = [] := by
  unfold siE
  simp [m0, tAny, visE_eq, argsE]
 rw [h1, List.nil_append]
 unfold exE
 rw [if_neg (show ¬ m0.body.kind = 2 by decide), List.append_nil]
 show visE [(sa, n0)] tWW = _
 have h2 : visE [(sa, n0)] tWW = (match lookS [(sa, n0)] sW with | some x => [] | none => []) ++ ((match lookS [(sa, n0)] sa with | some x => [⟨x, n0, true⟩] | none => []) ++ match lookS [(sa, n0)] sa with | some x => [⟨x, n0, false⟩] | none => []) := by
  simp [tWW, tA, visE, argsE, inE, inEs]
  rfl
 rw [h2, la, lW]
 rfl
end Go.Proofs.T
namespace Go.Proofs.T
open Go Go.Ab Go.RowKit
def bodyT (x : Ex) : List Ty := x.targs ++ (if x.kind = 3 ∨ x.kind = 5 then [x.type] else [])
def bodyTys (e : Ex) : List Ty := (nodesEx e).flatMap bodyT
def tyDe (d : Dec) : List Ty := d.formals.map (·.bound) ++ d.fields.map (·.type) ++ d.sigs.flatMap siTys ++ (if d.kind = 3 then siTys d.sig ++ bodyTys d.body else [])
def tyPr (p : Prg) : List Ty := p.decls.flatMap tyDe ++ bodyTys p.main
theorem okRowsTy : ∀ l : List Ty, okRows 3 (l.map encTy) := fun l => okRows_map 3 encTy l fun e => by rw [encTy_agg]; exact ⟨rfl, rfl⟩
theorem takeMB {α β : Type} (f : α → β) (g : β → D) {l : List α} {k : Nat} (h : k < l.length) : ((l.take (k + 1)).map f).map g = ((l.take k).map f).map g ++ [g (f l[k])] := by
 rw [List.take_add_one, List.getElem?_eq_getElem h, List.map_append, List.map_append]
 rfl
set_option maxRecDepth 100000 in
theorem sigT_calls (s : Sig) (h1 : s.formals.length ≤ 1000000) (h2 : s.params.length ≤ 1000000) (g d : Nat) : ACalls E 66 [encSi s] [] g d (slTy (siTys s)) [] := by
 refine acalls_of_awp (fn := Tryz.f66) (N := 43) Tryz.call66 Tryz.func66 rfl rfl (by simp) ?_
 simp only [go_sem]
 refine awp_seq_k (fun K1 hK1 => ?_)
 refine awp_plain 2 (by kernel_rfl) rfl (fun g0 hg0 => ?_)
 simp only [go_sem]
 refine hK1 _ ?_
 refine awp_seq_k (fun K2 hK2 => ?_)
 refine awp_plain 1 (by kernel_rfl) rfl (fun g1 hg1 => ?_)
 simp only [go_sem]
 refine hK2 _ ?_
 refine awp_seq_k (fun K3 hK3 => ?_)
 refine awp_seq_k (fun K4 hK4 => ?_)
 refine awp_plain 1 (by kernel_rfl) rfl (fun g2 hg2 => ?_)
 simp only [go_sem]
 refine hK4 _ ?_
 refine awp_block ?_
 refine awp_nil 3 25 3 rfl fun gn hgn => ?_
 have hn0 : gn ≠ g0 := fresh_g hgn 1 0 (by simp [go_sem])
 refine awp_loop (fun m st => ∃ k a i, k ≤ s.formals.length ∧ m = s.formals.length - k ∧ a ≠ g0 ∧
   Le { env := [(1, .ptr ⟨g0, 1, 0⟩ 0), (4, dN k), (3, .own ⟨a, i, 0⟩ k)], σ := [(⟨g0, 1, 0⟩, .box 69 (siC s)), (⟨a, i, 0⟩, .arr 25 3 (((s.formals.take k).map (·.bound)).map encTy))] } st) s.formals.length ?_ ?_
 ·refine ⟨0, gn, 0, Nat.zero_le _, rfl, hn0, le_of ?_⟩
  simp only [go_sem, hn0, Ne.symm hn0, List.take_zero, List.map_nil]
  all_goals first | exact rfl | exact ⟨rfl, rfl⟩ | trivial
 ·rintro m st ⟨k, a, i, hk, rfl, ha, hle⟩
  refine awp_keep hle ?_
  clear hle
  refine awp_seq_k (fun K5 hK5 => ?_)
  refine awp_seq_k (fun K6 hK6 => ?_)
  by_cases hlt : k < s.formals.length
  ·refine awp_plain 5 (by kernel_rfl) rfl (fun g3 hg3 => ?_)
   simp only [go_sem, hlt, ha]
   refine hK6 _ ?_
   refine awp_t rfl ?_
   refine awp_skip ?_
   refine hK5 _ ?_
   refine awp_seq_k (fun K7 hK7 => ?_)
   refine awp_block ?_
   refine awp_ops (by kernel_rfl) rfl (fun g5 hg5 ops5 KR5 hops5 hKR5 => ?_)
   refine aops_eval 8 hops5 ?_
   simp only [go_sem, getM hlt, ha]
   refine aops_app hops5 rfl rfl rfl rfl rfl es23 sz25 by25 ze25 rfl (by decide) ?_
   simp only [go_sem, Ne.symm ha, List.length_take_of_le (Nat.le_of_lt hlt)]
   first | refine ⟨⟨by omega, by omega⟩, ?_⟩ | skip
   have hn5_g0 : g5 ≠ g0 := fresh_g hg5 1 0 (by simp [go_sem])
   refine aops_last 1 hops5 ?_
   simp only [go_sem]
   refine hKR5 _ ?_
   refine hK7 _ ?_
   refine awp_plain 3 (by kernel_rfl) rfl (fun g4 hg4 => ?_)
   simp only [go_sem]
   try simp (disch := omega) only [wrapN]
   refine ⟨_, ?_, k + 1, g5, 21, hlt, rfl, hn5_g0, le_of ?_⟩
   ·omega
   simp only [go_sem, takeMB _ _ hlt, hn5_g0, Ne.symm hn5_g0]
   all_goals first | exact rfl | exact ⟨rfl, rfl⟩ | trivial | omega
  ·have : k = s.formals.length := by omega
   subst this
   refine awp_plain 5 (by kernel_rfl) rfl (fun g3 hg3 => ?_)
   simp only [go_sem, hlt, ha]
   refine hK6 _ ?_
   refine awp_f rfl ?_
   refine awp_exit ?_
   refine hK3 _ ?_
   refine awp_seq_k (fun K8 hK8 => ?_)
   refine awp_seq_k (fun K9 hK9 => ?_)
   refine awp_plain 1 (by kernel_rfl) rfl (fun g6 hg6 => ?_)
   simp only [go_sem]
   refine hK9 _ ?_
   refine awp_block ?_
   refine awp_loop (fun m st => ∃ k a i, k ≤ s.params.length ∧ m = s.params.length - k ∧ a ≠ g0 ∧
     Le { env := [(1, .ptr ⟨g0, 1, 0⟩ 0), (5, dN k), (3, .own ⟨a, i, 0⟩ (s.formals.length + k))], σ := [(⟨g0, 1, 0⟩, .box 69 (siC s)), (⟨a, i, 0⟩, .arr 25 3 ((s.formals.map (·.bound)).map encTy ++ ((s.params.take k).map (·.type)).map encTy))] } st) s.params.length ?_ ?_
   ·refine ⟨0, a, i, Nat.zero_le _, rfl, ha, le_of ?_⟩
    simp only [go_sem, List.take_zero, List.map_nil, List.append_nil, Nat.add_zero, ha, Ne.symm ha]
    all_goals first | exact rfl | exact ⟨rfl, rfl⟩ | trivial
   ·rintro m st ⟨k, a, i, hk, rfl, ha, hle⟩
    refine awp_keep hle ?_
    clear hle
    refine awp_seq_k (fun K10 hK10 => ?_)
    refine awp_seq_k (fun K11 hK11 => ?_)
    by_cases hlt : k < s.params.length
    ·refine awp_plain 5 (by kernel_rfl) rfl (fun g7 hg7 => ?_)
     simp only [go_sem, hlt, ha]
     refine hK11 _ ?_
     refine awp_t rfl ?_
     refine awp_skip ?_
     refine hK10 _ ?_
     refine awp_seq_k (fun K12 hK12 => ?_)
     refine awp_block ?_
     refine awp_ops (by kernel_rfl) rfl (fun g9 hg9 ops9 KR9 hops9 hKR9 => ?_)
     refine aops_eval 8 hops9 ?_
     simp only [go_sem, getM hlt, ha]
     refine aops_app hops9 rfl rfl rfl rfl rfl es23 sz25 by25 ze25 rfl (by decide) ?_
     simp only [go_sem, Ne.symm ha, List.length_take_of_le (Nat.le_of_lt hlt)]
     first | refine ⟨⟨by omega, by omega⟩, ?_⟩ | skip
     have hn9_g0 : g9 ≠ g0 := fresh_g hg9 1 0 (by simp [go_sem])
     refine aops_last 1 hops9 ?_
     simp only [go_sem]
     refine hKR9 _ ?_
     refine hK12 _ ?_
     refine awp_plain 3 (by kernel_rfl) rfl (fun g8 hg8 => ?_)
     simp only [go_sem]
     try simp (disch := omega) only [wrapN]
     refine ⟨_, ?_, k + 1, g9, 37, hlt, rfl, hn9_g0, le_of ?_⟩
     ·omega
     simp only [go_sem, takeMB _ _ hlt, List.append_assoc, Nat.add_assoc, hn9_g0, Ne.symm hn9_g0]
     all_goals first | exact rfl | exact ⟨rfl, rfl⟩ | trivial | omega
    ·have : k = s.params.length := by omega
     subst this
     refine awp_plain 5 (by kernel_rfl) rfl (fun g7 hg7 => ?_)
     simp only [go_sem, hlt, ha]
     refine hK11 _ ?_
     refine awp_f rfl ?_
     refine awp_exit ?_
     refine hK8 _ ?_
     refine awp_seq_k (fun K13 hK13 => ?_)
     refine awp_ops (by kernel_rfl) rfl (fun g10 hg10 ops10 KR10 hops10 hKR10 => ?_)
     refine aops_eval 4 hops10 ?_
     simp only [go_sem, ha]
     refine aops_app hops10 rfl rfl rfl rfl rfl es23 sz25 by25 ze25 rfl (by decide) ?_
     simp only [go_sem, Ne.symm ha]
     first | refine ⟨⟨by omega, by omega⟩, ?_⟩ | skip
     refine aops_last 1 hops10 ?_
     simp only [go_sem]
     refine hKR10 _ ?_
     refine hK13 _ ?_
     refine awp_ret ?_
     refine ret_frz ⟨g10, 42, 0⟩ ?_
     simp only [go_sem]
     refine ends_ev rfl ?_
     simp only [go_sem]
     exact Co.of_eq (by simp [siTys])
end Go.Proofs.T
namespace Go.Proofs.T
open Go Go.Ab Go.RowKit
theorem flat_take {α β : Type} (f : α → List β) {l : List α} {k : Nat} (h : k < l.length) : (l.take (k + 1)).flatMap f = (l.take k).flatMap f ++ f l[k] := by
 rw [List.take_add_one, List.getElem?_eq_getElem h, List.flatMap_append]
 simp
theorem flat_le {α β : Type} (f : α → List β) (l : List α) (k : Nat) : ((l.take k).flatMap f).length ≤ (l.flatMap f).length := by
 have := congrArg (fun l => (l.flatMap f).length) (List.take_append_drop k l)
 simp only [List.flatMap_append, List.length_append] at this
 omega
theorem flat_mem {α β : Type} (f : α → List β) {l : List α} {k : Nat} (h : k < l.length) : ((l.take k).flatMap f).length + (f l[k]).length ≤ (l.flatMap f).length := by
 have h1 := flat_take f h
 have h2 := flat_le f l (k + 1)
 rw [h1, List.length_append] at h2
 exact h2
set_option maxRecDepth 100000 in
theorem bodyT_calls (e : Ex) (he : okEx e) (hl : (nodesEx e).length ≤ 1000000) (hb : (bodyTys e).length ≤ 1000000) (g d : Nat) : ACalls E 67 [encEx e] [] g d (slTy (bodyTys e)) [] := by
 refine acalls_of_awp (fn := Tryz.f67) (N := 44) Tryz.call67 Tryz.func67 rfl rfl (by simp) ?_
 simp only [go_sem]
 refine awp_seq_k (fun K1 hK1 => ?_)
 refine awp_plain 2 (by kernel_rfl) rfl (fun g0 hg0 => ?_)
 simp only [go_sem]
 refine hK1 _ ?_
 refine awp_seq_k (fun K2 hK2 => ?_)
 refine awp_plain 1 (by kernel_rfl) rfl (fun g1 hg1 => ?_)
 simp only [go_sem]
 refine hK2 _ ?_
 refine awp_seq_k (fun K3 hK3 => ?_)
 refine awp_nil 3 25 3 rfl fun gn hgn => ?_
 have hn0 : gn ≠ g0 := fresh_g hgn 1 0 (by simp [go_sem])
 refine awp_ops (by kernel_rfl) rfl (fun g2 hg2 ops2 KR2 hops2 hKR2 => ?_)
 refine aops_eval 1 hops2 ?_
 simp only [go_sem, hn0]
 refine aops_pure hops2 rfl rfl rfl (list05_calls e he hl _ _) (CoL.refl _) ?_
 refine aops_last 1 hops2 ?_
 simp only [go_sem]
 refine hKR2 _ ?_
 refine hK3 _ ?_
 refine awp_seq_k (fun K4 hK4 => ?_)
 refine awp_seq_k (fun K5 hK5 => ?_)
 generalize hl0 : nodesEx e = l at *
 have hbl : bodyTys e = l.flatMap bodyT := by rw [← hl0]; rfl
 rw [hbl] at hb
 refine awp_plain 1 (by kernel_rfl) rfl (fun g3 hg3 => ?_)
 simp only [go_sem]
 refine hK5 _ ?_
 refine awp_block ?_
 refine awp_loop (fun m st => ∃ k a i L, k ≤ l.length ∧ m = l.length - k ∧ L = (l.take k).flatMap bodyT ∧
   Le { env := [(3, .own ⟨a, i, 0⟩ L.length), (4, slEx l), (5, dN k)], σ := [(⟨a, i, 0⟩, .arr 25 3 (L.map encTy))] } st) l.length ?_ ?_
 ·refine ⟨0, gn, 0, [], Nat.zero_le _, rfl, by simp, le_of ?_⟩
  simp only [go_sem, List.map_nil, List.length_nil, Ne.symm hn0]
  all_goals first | exact rfl | exact ⟨rfl, rfl⟩ | trivial
 ·rintro m st ⟨k, a, i, L, hk, rfl, hL, hle⟩
  refine awp_keep hle ?_
  clear hle
  refine awp_seq_k (fun K6 hK6 => ?_)
  refine awp_seq_k (fun K7 hK7 => ?_)
  by_cases hlt : k < l.length
  ·have hbd := flat_mem bodyT hlt
   have hft := flat_take bodyT hlt
   rw [← hL] at hbd hft
   refine awp_plain 4 (by kernel_rfl) rfl (fun g4 hg4 => ?_)
   simp only [go_sem, hlt]
   refine hK7 _ ?_
   refine awp_t rfl ?_
   refine awp_skip ?_
   refine hK6 _ ?_
   refine awp_seq_k (fun K8 hK8 => ?_)
   refine awp_block ?_
   refine awp_seq_k (fun K9 hK9 => ?_)
   have hlb : (bodyT l[k]).length = l[k].targs.length + (if l[k].kind = 3 ∨ l[k].kind = 5 then [l[k].type] else []).length := by simp [bodyT]
   have hft2 : (l.take (k + 1)).flatMap bodyT = L ++ (l[k].targs ++ (if l[k].kind = 3 ∨ l[k].kind = 5 then [l[k].type] else [])) := hft
   have hgm := getM (f := encEx) hlt
   generalize l[k] = x at *
   refine awp_ops (by kernel_rfl) rfl (fun g6 hg6 ops6 KR6 hops6 hKR6 => ?_)
   refine aops_eval 6 hops6 ?_
   simp only [go_sem, hgm]
   refine aops_app hops6 rfl rfl rfl rfl rfl es23 sz25 by25 ze25 rfl (by decide) ?_
   simp only [go_sem, okRowsTy]
   first | refine ⟨⟨by omega, by omega⟩, ?_⟩ | skip
   refine aops_last 1 hops6 ?_
   simp only [go_sem]
   refine hKR6 _ ?_
   refine hK9 _ ?_
   refine awp_seq_k (fun K10 hK10 => ?_)
   by_cases k3 : x.kind = 3
   ·have q3 := eq_true k3
    have h35 : (if x.kind = 3 ∨ x.kind = 5 then [x.type] else []) = [x.type] := if_pos (.inl k3)
    rw [h35] at hlb
    refine awp_plain 14 (by kernel_rfl) rfl (fun g7 hg7 => ?_)
    simp only [go_sem, hgm, q3, decide_true]
    refine hK10 _ ?_
    refine awp_t rfl ?_
    refine awp_ops (by kernel_rfl) rfl (fun g8 hg8 ops8 KR8 hops8 hKR8 => ?_)
    refine aops_eval 7 hops8 ?_
    simp only [go_sem, hgm]
    refine aops_app hops8 rfl rfl rfl rfl rfl es23 sz25 by25 ze25 rfl (by decide) ?_
    simp only [go_sem]
    first | refine ⟨⟨by omega, by omega⟩, ?_⟩ | skip
    refine aops_last 1 hops8 ?_
    simp only [go_sem]
    refine hKR8 _ ?_
    refine hK8 _ ?_
    refine awp_plain 3 (by kernel_rfl) rfl (fun g5 hg5 => ?_)
    simp only [go_sem]
    try simp (disch := omega) only [wrapN]
    refine ⟨_, ?_, k + 1, g8, 42, _, hlt, rfl, hft2.symm, le_of ?_⟩
    ·omega
    simp only [go_sem, h35, List.map_append, List.length_append, List.append_assoc, Nat.add_assoc, List.map_cons, List.map_nil, List.length_cons, List.length_nil]
    all_goals first | exact rfl | exact ⟨rfl, rfl⟩ | trivial | omega
   ·have q3 := eq_false k3
    by_cases k5 : x.kind = 5
    ·have q5 := eq_true k5
     have h35 : (if x.kind = 3 ∨ x.kind = 5 then [x.type] else []) = [x.type] := if_pos (.inr k5)
     rw [h35] at hlb
     refine awp_plain 14 (by kernel_rfl) rfl (fun g7 hg7 => ?_)
     simp only [go_sem, hgm, q3, q5, decide_true, decide_false]
     refine hK10 _ ?_
     refine awp_t rfl ?_
     refine awp_ops (by kernel_rfl) rfl (fun g8 hg8 ops8 KR8 hops8 hKR8 => ?_)
     refine aops_eval 7 hops8 ?_
     simp only [go_sem, hgm]
     refine aops_app hops8 rfl rfl rfl rfl rfl es23 sz25 by25 ze25 rfl (by decide) ?_
     simp only [go_sem]
     first | refine ⟨⟨by omega, by omega⟩, ?_⟩ | skip
     refine aops_last 1 hops8 ?_
     simp only [go_sem]
     refine hKR8 _ ?_
     refine hK8 _ ?_
     refine awp_plain 3 (by kernel_rfl) rfl (fun g5 hg5 => ?_)
     simp only [go_sem]
     try simp (disch := omega) only [wrapN]
     refine ⟨_, ?_, k + 1, g8, 42, _, hlt, rfl, hft2.symm, le_of ?_⟩
     ·omega
     simp only [go_sem, h35, List.map_append, List.length_append, List.append_assoc, Nat.add_assoc, List.map_cons, List.map_nil, List.length_cons, List.length_nil]
     all_goals first | exact rfl | exact ⟨rfl, rfl⟩ | trivial | omega
    ·have q5 := eq_false k5
     have h35 : (if x.kind = 3 ∨ x.kind = 5 then [x.type] else []) = [] := if_neg (fun h => h.elim k3 k5)
     refine awp_plain 14 (by kernel_rfl) rfl (fun g7 hg7 => ?_)
     simp only [go_sem, hgm, q3, q5, decide_false]
     refine hK10 _ ?_
     refine awp_f rfl ?_
     refine awp_skip ?_
     refine hK8 _ ?_
     refine awp_plain 3 (by kernel_rfl) rfl (fun g5 hg5 => ?_)
     simp only [go_sem]
     try simp (disch := omega) only [wrapN]
     refine ⟨_, ?_, k + 1, g6, 20, _, hlt, rfl, hft2.symm, le_of ?_⟩
     ·omega
     simp only [go_sem, h35, List.map_append, List.length_append, List.append_nil]
     all_goals first | exact rfl | exact ⟨rfl, rfl⟩ | trivial | omega
  ·have : k = l.length := by omega
   subst this
   rw [List.take_length] at hL
   refine awp_plain 4 (by kernel_rfl) rfl (fun g4 hg4 => ?_)
   simp only [go_sem, hlt]
   refine hK7 _ ?_
   refine awp_f rfl ?_
   refine awp_exit ?_
   refine hK4 _ ?_
   refine awp_seq_k (fun K11 hK11 => ?_)
   refine awp_plain 2 (by kernel_rfl) rfl (fun g9 hg9 => ?_)
   simp only [go_sem]
   refine hK11 _ ?_
   refine awp_ret ?_
   refine ret_frz ⟨a, i, 0⟩ ?_
   simp only [go_sem]
   refine ends_ev rfl ?_
   simp only [go_sem]
   exact Co.of_eq (by rw [hbl, ← hL])
end Go.Proofs.T
namespace Go.Proofs.T
open Go Go.Ab Go.RowKit
theorem siTys_len' (s : Sig) : (siTys s).length = s.formals.length + s.params.length + 1 := by simp [siTys]; omega
theorem bodyT_le (x : Ex) : (bodyT x).length ≤ (x.type :: x.targs).length := by
 unfold bodyT
 split <;> simp
theorem bodyTys_le (e : Ex) : (bodyTys e).length ≤ wN (exTys e) := by
 refine Nat.le_trans ?_ (wN_len _)
 unfold bodyTys exTys
 generalize nodesEx e = l
 induction l with
 | nil => simp
 | cons x r ih =>
  rw [List.flatMap_cons, List.flatMap_cons, List.length_append, List.length_append]
  have := bodyT_le x
  omega
theorem nodesEx_le (e : Ex) : (nodesEx e).length ≤ wN (exTys e) := by
 refine Nat.le_trans ?_ (wN_len _)
 unfold exTys
 generalize nodesEx e = l
 induction l with
 | nil => simp
 | cons x r ih =>
  rw [List.flatMap_cons, List.length_append]
  simp only [List.length_cons]
  omega
theorem wN_flatL {α : Type} (f : α → List Ty) (l : List α) : (l.flatMap f).length ≤ wN (l.flatMap f) := wN_len _
theorem tyDe_le (d : Dec) : (tyDe d).length ≤ wN (deTys d) := by
 unfold tyDe deTys
 have h1 := wN_len (d.formals.map (·.bound))
 have h2 := wN_len (d.fields.map (·.type))
 have h3 := wN_flatL siTys d.sigs
 have h4 := wN_len (siTys d.sig)
 have h5 := bodyTys_le d.body
 rw [wN_app, wN_app, wN_app, wN_app]
 simp only [List.length_append]
 split
 ·simp only [List.length_append]; omega
 ·simp only [List.length_nil]; omega
theorem tyPr_le (p : Prg) : (tyPr p).length ≤ wN (prTys p) := by
 unfold tyPr prTys
 have h5 := bodyTys_le p.main
 rw [wN_app, wN_flat]
 simp only [List.length_append]
 have : (p.decls.flatMap tyDe).length ≤ (p.decls.map (fun a => wN (deTys a))).sum := by
  generalize p.decls = l
  induction l with
  | nil => simp
  | cons x r ih =>
   rw [List.flatMap_cons, List.length_append, List.map_cons, List.sum_cons]
   have := tyDe_le x
   omega
 omega
theorem deTys_sig (d : Dec) : wN (siTys d.sig) ≤ wN (deTys d) := by
 unfold deTys
 rw [wN_app, wN_app, wN_app, wN_app]
 omega
theorem deTys_body (d : Dec) : wN (exTys d.body) ≤ wN (deTys d) := by
 unfold deTys
 rw [wN_app, wN_app, wN_app, wN_app]
 omega
theorem prTys_main (p : Prg) : wN (exTys p.main) ≤ wN (prTys p) := by
 unfold prTys
 rw [wN_app]
 omega
set_option maxRecDepth 100000 in
theorem types06_calls (p : Prg) (hp : smPr p) (hw : wN (prTys p) ≤ 1000000) (g q : Nat) : ACalls E 37 [encPr p] [] g q (slTy (tyPr p)) [] := by
 have hT := tyPr_le p
 obtain ⟨⟨k1, k2⟩, k3⟩ := hp
 have hm := prTys_main p
 have hTT : (tyPr p).length = (p.decls.flatMap tyDe).length + (bodyTys p.main).length := by simp [tyPr]
 refine acalls_of_awp (fn := Tryz.f37) (N := 86) Tryz.call37 Tryz.func37 rfl rfl (by simp) ?_
 simp only [go_sem]
 refine awp_seq_k (fun K1 hK1 => ?_)
 refine awp_plain 2 (by kernel_rfl) rfl (fun g0 hg0 => ?_)
 simp only [go_sem]
 refine hK1 _ ?_
 refine awp_seq_k (fun K2 hK2 => ?_)
 refine awp_plain 1 (by kernel_rfl) rfl (fun g1 hg1 => ?_)
 simp only [go_sem]
 refine hK2 _ ?_
 refine awp_seq_k (fun K3 hK3 => ?_)
 refine awp_seq_k (fun K4 hK4 => ?_)
 refine awp_nil 3 25 3 rfl fun gn hgn => ?_
 have hn0 : gn ≠ g0 := fresh_g hgn 1 0 (by simp [go_sem])
 refine awp_plain 1 (by kernel_rfl) rfl (fun g2 hg2 => ?_)
 simp only [go_sem]
 refine hK4 _ ?_
 refine awp_block ?_
 refine awp_loop (fun m st => ∃ k a i L, k ≤ p.decls.length ∧ m = p.decls.length - k ∧ a ≠ g0 ∧ L = (p.decls.take k).flatMap tyDe ∧
   Le { env := [(1, .ptr ⟨g0, 1, 0⟩ 0), (4, dN k), (3, .own ⟨a, i, 0⟩ L.length)], σ := [(⟨g0, 1, 0⟩, .box 30 (prC p)), (⟨a, i, 0⟩, .arr 25 3 (L.map encTy))] } st) p.decls.length ?_ ?_
 ·refine ⟨0, gn, 0, [], Nat.zero_le _, rfl, hn0, by simp, le_of ?_⟩
  simp only [go_sem, hn0, Ne.symm hn0, List.map_nil, List.length_nil]
  all_goals first | exact rfl | exact ⟨rfl, rfl⟩ | trivial
 ·rintro m st ⟨k, a, i, L, hk, rfl, ha, hL, hle⟩
  refine awp_keep hle ?_
  clear hle
  refine awp_seq_k (fun K5 hK5 => ?_)
  refine awp_seq_k (fun K6 hK6 => ?_)
  by_cases hlt : k < p.decls.length
  ·have hbd := flat_mem tyDe hlt
   have hft := flat_take tyDe hlt
   rw [← hL] at hbd hft
   refine awp_plain 5 (by kernel_rfl) rfl (fun g3 hg3 => ?_)
   simp only [go_sem, hlt, ha]
   refine hK6 _ ?_
   refine awp_t rfl ?_
   refine awp_skip ?_
   refine hK5 _ ?_
   refine awp_seq_k (fun K7 hK7 => ?_)
   refine awp_block ?_
   refine awp_seq_k (fun K8 hK8 => ?_)
   have hgm := getM (f := encDe) hlt
   have hsm := k2 _ (List.getElem_mem hlt)
   have hwd := wN_dec (List.getElem_mem hlt)
   generalize p.decls[k] = D at *
   have hDl : (tyDe D).length = D.formals.length + D.fields.length + (D.sigs.flatMap siTys).length + (if D.kind = 3 then siTys D.sig ++ bodyTys D.body else []).length := by simp [tyDe, Nat.add_assoc]
   refine awp_plain 7 (by kernel_rfl) rfl (fun g5 hg5 => ?_)
   simp only [go_sem, hgm, ha]
   refine hK8 _ ?_
   refine awp_seq_k (fun K9 hK9 => ?_)
   refine awp_seq_k (fun K10 hK10 => ?_)
   have hn5_g0 : g5 ≠ g0 := fresh_g hg5 1 0 (by simp [go_sem])
   have hn5_a : g5 ≠ a := fresh_g hg5 i 0 (by simp [go_sem, Ne.symm ha])
   have ha5 : a ≠ g5 := Ne.symm hn5_a
   refine awp_plain 1 (by kernel_rfl) rfl (fun g6 hg6 => ?_)
   simp only [go_sem]
   refine hK10 _ ?_
   refine awp_block ?_
   refine awp_loop (fun m st => ∃ j a i L1, j ≤ D.formals.length ∧ m = D.formals.length - j ∧ a ≠ g0 ∧ a ≠ g5 ∧ L1 = L ++ (D.formals.take j).map (fun x => x.bound) ∧
     Le { env := [(1, .ptr ⟨g0, 1, 0⟩ 0), (4, dN k), (5, .ptr ⟨g5, 5, 0⟩ 0), (6, dN j), (3, .own ⟨a, i, 0⟩ L1.length)], σ := [(⟨g0, 1, 0⟩, .box 30 (prC p)), (⟨g5, 5, 0⟩, .box 71 (deC D)), (⟨a, i, 0⟩, .arr 25 3 (L1.map encTy))] } st) D.formals.length ?_ ?_
   ·refine ⟨0, a, i, L, Nat.zero_le _, rfl, ha, ha5, by simp, le_of ?_⟩
    simp only [go_sem, ha5, Ne.symm ha5, ha, Ne.symm ha, hn5_g0, Ne.symm hn5_g0]
    all_goals first | exact rfl | exact ⟨rfl, rfl⟩ | trivial
   ·rintro m st ⟨j, a, i, L1, hj, rfl, ha, ha5, hL1, hle⟩
    refine awp_keep hle ?_
    clear hle
    refine awp_seq_k (fun K11 hK11 => ?_)
    refine awp_seq_k (fun K12 hK12 => ?_)
    by_cases hlj : j < D.formals.length
    ·have hLl : L1.length = L.length + j := by rw [hL1, List.length_append, List.length_map, List.length_take]; omega
     have hft2 : L ++ (D.formals.take (j + 1)).map (fun x => x.bound) = L1 ++ [D.formals[j].bound] := by rw [List.take_add_one, List.getElem?_eq_getElem hlj, List.map_append, ← List.append_assoc, ← hL1]; rfl
     refine awp_plain 5 (by kernel_rfl) rfl (fun g7 hg7 => ?_)
     simp only [go_sem, hlj, ha5, Ne.symm hn5_g0]
     refine hK12 _ ?_
     refine awp_t rfl ?_
     refine awp_skip ?_
     refine hK11 _ ?_
     refine awp_seq_k (fun K13 hK13 => ?_)
     refine awp_block ?_
     refine awp_ops (by kernel_rfl) rfl (fun g9 hg9 ops9 KR9 hops9 hKR9 => ?_)
     refine aops_eval 8 hops9 ?_
     simp only [go_sem, getM hlj, ha5, Ne.symm hn5_g0]
     refine aops_app hops9 rfl rfl rfl rfl rfl es23 sz25 by25 ze25 rfl (by decide) ?_
     simp only [go_sem, Ne.symm ha, Ne.symm ha5]
     first | refine ⟨⟨by omega, by omega⟩, ?_⟩ | skip
     have hn9_g0 : g9 ≠ g0 := fresh_g hg9 1 0 (by simp [go_sem])
     have hn9_g5 : g9 ≠ g5 := fresh_g hg9 5 0 (by simp [go_sem, Ne.symm hn5_g0])
     refine aops_last 1 hops9 ?_
     simp only [go_sem]
     refine hKR9 _ ?_
     refine hK13 _ ?_
     refine awp_plain 3 (by kernel_rfl) rfl (fun g8 hg8 => ?_)
     simp only [go_sem]
     try simp (disch := omega) only [wrapN]
     refine ⟨_, ?_, j + 1, g9, 36, _, hlj, rfl, hn9_g0, hn9_g5, hft2.symm, le_of ?_⟩
     ·omega
     simp only [go_sem, List.map_append, List.length_append, List.map_cons, List.map_nil, List.length_cons, List.length_nil, Nat.zero_add, hn5_g0, Ne.symm hn5_g0, hn9_g0, Ne.symm hn9_g0, hn9_g5, Ne.symm hn9_g5]
     all_goals first | exact rfl | exact ⟨rfl, rfl⟩ | trivial | omega
    ·have : j = D.formals.length := by omega
     subst this
     rw [List.take_length] at hL1
     refine awp_plain 5 (by kernel_rfl) rfl (fun g7 hg7 => ?_)
     simp only [go_sem, hlj, ha5, Ne.symm hn5_g0]
     refine hK12 _ ?_
     refine awp_f rfl ?_
     refine awp_exit ?_
     refine hK9 _ ?_
     refine awp_seq_k (fun K14 hK14 => ?_)
     refine awp_seq_k (fun K15 hK15 => ?_)
     refine awp_plain 1 (by kernel_rfl) rfl (fun g10 hg10 => ?_)
     simp only [go_sem]
     refine hK15 _ ?_
     refine awp_block ?_
     have hLL1 : L1.length = L.length + D.formals.length := by rw [hL1]; simp
     refine awp_loop (fun m st => ∃ j a i L2, j ≤ D.fields.length ∧ m = D.fields.length - j ∧ a ≠ g0 ∧ a ≠ g5 ∧ L2 = L1 ++ (D.fields.take j).map (fun x => x.type) ∧
       Le { env := [(1, .ptr ⟨g0, 1, 0⟩ 0), (4, dN k), (5, .ptr ⟨g5, 5, 0⟩ 0), (7, dN j), (3, .own ⟨a, i, 0⟩ L2.length)], σ := [(⟨g0, 1, 0⟩, .box 30 (prC p)), (⟨g5, 5, 0⟩, .box 71 (deC D)), (⟨a, i, 0⟩, .arr 25 3 (L2.map encTy))] } st) D.fields.length ?_ ?_
     ·refine ⟨0, a, i, L1, Nat.zero_le _, rfl, ha, ha5, by simp, le_of ?_⟩
      simp only [go_sem, ha, Ne.symm ha, ha5, Ne.symm ha5, hn5_g0, Ne.symm hn5_g0]
      all_goals first | exact rfl | exact ⟨rfl, rfl⟩ | trivial
     ·rintro m st ⟨j, a, i, L2, hj, rfl, ha, ha5, hL2, hle⟩
      refine awp_keep hle ?_
      clear hle
      refine awp_seq_k (fun K16 hK16 => ?_)
      refine awp_seq_k (fun K17 hK17 => ?_)
      by_cases hlj : j < D.fields.length
      ·have hLl : L2.length = L1.length + j := by rw [hL2, List.length_append, List.length_map, List.length_take]; omega
       have hft2 : L1 ++ (D.fields.take (j + 1)).map (fun x => x.type) = L2 ++ [D.fields[j].type] := by rw [List.take_add_one, List.getElem?_eq_getElem hlj, List.map_append, ← List.append_assoc, ← hL2]; rfl
       refine awp_plain 5 (by kernel_rfl) rfl (fun g11 hg11 => ?_)
       simp only [go_sem, hlj, ha5, Ne.symm hn5_g0]
       refine hK17 _ ?_
       refine awp_t rfl ?_
       refine awp_skip ?_
       refine hK16 _ ?_
       refine awp_seq_k (fun K18 hK18 => ?_)
       refine awp_block ?_
       refine awp_ops (by kernel_rfl) rfl (fun g13 hg13 ops13 KR13 hops13 hKR13 => ?_)
       refine aops_eval 8 hops13 ?_
       simp only [go_sem, getM hlj, ha5, Ne.symm hn5_g0]
       refine aops_app hops13 rfl rfl rfl rfl rfl es23 sz25 by25 ze25 rfl (by decide) ?_
       simp only [go_sem, Ne.symm ha, Ne.symm ha5]
       first | refine ⟨⟨by omega, by omega⟩, ?_⟩ | skip
       have hn13_g0 : g13 ≠ g0 := fresh_g hg13 1 0 (by simp [go_sem])
       have hn13_g5 : g13 ≠ g5 := fresh_g hg13 5 0 (by simp [go_sem, Ne.symm hn5_g0])
       refine aops_last 1 hops13 ?_
       simp only [go_sem]
       refine hKR13 _ ?_
       refine hK18 _ ?_
       refine awp_plain 3 (by kernel_rfl) rfl (fun g12 hg12 => ?_)
       simp only [go_sem]
       try simp (disch := omega) only [wrapN]
       refine ⟨_, ?_, j + 1, g13, 52, _, hlj, rfl, hn13_g0, hn13_g5, hft2.symm, le_of ?_⟩
       ·omega
       simp only [go_sem, List.map_append, List.length_append, List.map_cons, List.map_nil, List.length_cons, List.length_nil, Nat.zero_add, hn5_g0, Ne.symm hn5_g0, hn13_g0, Ne.symm hn13_g0, hn13_g5, Ne.symm hn13_g5]
       all_goals first | exact rfl | exact ⟨rfl, rfl⟩ | trivial | omega
      ·have : j = D.fields.length := by omega
       subst this
       rw [List.take_length] at hL2
       refine awp_plain 5 (by kernel_rfl) rfl (fun g11 hg11 => ?_)
       simp only [go_sem, hlj, ha5, Ne.symm hn5_g0]
       refine hK17 _ ?_
       refine awp_f rfl ?_
       refine awp_exit ?_
       refine hK14 _ ?_
       refine awp_seq_k (fun K19 hK19 => ?_)
       refine awp_seq_k (fun K20 hK20 => ?_)
       refine awp_plain 1 (by kernel_rfl) rfl (fun g14 hg14 => ?_)
       simp only [go_sem]
       refine hK20 _ ?_
       refine awp_block ?_
       have hsl0 := hsm.2.2.2.1.1
       have hLL2 : L2.length = L.length + D.formals.length + D.fields.length := by rw [hL2]; simp [hLL1]
       refine awp_loop (fun m st => ∃ j a i M, j ≤ D.sigs.length ∧ m = D.sigs.length - j ∧ a ≠ g0 ∧ a ≠ g5 ∧ M = L2 ++ (D.sigs.take j).flatMap siTys ∧
         Le { env := [(1, .ptr ⟨g0, 1, 0⟩ 0), (4, dN k), (5, .ptr ⟨g5, 5, 0⟩ 0), (8, dN j), (3, .own ⟨a, i, 0⟩ M.length)], σ := [(⟨g0, 1, 0⟩, .box 30 (prC p)), (⟨g5, 5, 0⟩, .box 71 (deC D)), (⟨a, i, 0⟩, .arr 25 3 (M.map encTy))] } st) D.sigs.length ?_ ?_
       ·refine ⟨0, a, i, L2, Nat.zero_le _, rfl, ha, ha5, by simp, le_of ?_⟩
        simp only [go_sem, ha, Ne.symm ha, ha5, Ne.symm ha5, hn5_g0, Ne.symm hn5_g0]
        all_goals first | exact rfl | exact ⟨rfl, rfl⟩ | trivial
       ·rintro m st ⟨j, a, i, M, hj, rfl, ha, ha5, hM, hle⟩
        refine awp_keep hle ?_
        clear hle
        refine awp_seq_k (fun K21 hK21 => ?_)
        refine awp_seq_k (fun K22 hK22 => ?_)
        by_cases hlj : j < D.sigs.length
        ·have hbj := flat_mem siTys hlj
         have hfj := flat_take siTys hlj
         have hMl : M.length = L2.length + ((D.sigs.take j).flatMap siTys).length := by rw [hM, List.length_append]
         have hft2 : L2 ++ (D.sigs.take (j + 1)).flatMap siTys = M ++ siTys D.sigs[j] := by rw [hfj, ← List.append_assoc, ← hM]
         have hsj := siTys_len' D.sigs[j]
         refine awp_plain 5 (by kernel_rfl) rfl (fun g15 hg15 => ?_)
         simp only [go_sem, hlj, ha5, Ne.symm hn5_g0]
         refine hK22 _ ?_
         refine awp_t rfl ?_
         refine awp_skip ?_
         refine hK21 _ ?_
         refine awp_seq_k (fun K23 hK23 => ?_)
         refine awp_block ?_
         refine awp_ops (by kernel_rfl) rfl (fun g17 hg17 ops17 KR17 hops17 hKR17 => ?_)
         refine aops_eval 6 hops17 ?_
         simp only [go_sem, getM hlj, ha5, Ne.symm hn5_g0]
         refine aops_pure hops17 rfl rfl rfl (sigT_calls D.sigs[j] (by omega) (by omega) _ _) (CoL.refl _) ?_
         refine aops_app hops17 rfl rfl rfl rfl rfl es23 sz25 by25 ze25 rfl (by decide) ?_
         simp only [go_sem, okRowsTy, Ne.symm ha, Ne.symm ha5]
         first | refine ⟨⟨by omega, by omega⟩, ?_⟩ | skip
         have hn17_g0 : g17 ≠ g0 := fresh_g hg17 1 0 (by simp [go_sem])
         have hn17_g5 : g17 ≠ g5 := fresh_g hg17 5 0 (by simp [go_sem, Ne.symm hn5_g0])
         refine aops_last 1 hops17 ?_
         simp only [go_sem]
         refine hKR17 _ ?_
         refine hK23 _ ?_
         refine awp_plain 3 (by kernel_rfl) rfl (fun g16 hg16 => ?_)
         simp only [go_sem]
         try simp (disch := omega) only [wrapN]
         refine ⟨_, ?_, j + 1, g17, 67, _, hlj, rfl, hn17_g0, hn17_g5, hft2.symm, le_of ?_⟩
         ·omega
         simp only [go_sem, List.map_append, List.length_append, hn5_g0, Ne.symm hn5_g0, hn17_g0, Ne.symm hn17_g0, hn17_g5, Ne.symm hn17_g5]
         all_goals first | exact rfl | exact ⟨rfl, rfl⟩ | trivial | omega
        ·have : j = D.sigs.length := by omega
         subst this
         rw [List.take_length] at hM
         have hMl : M.length = L2.length + (D.sigs.flatMap siTys).length := by rw [hM, List.length_append]
         have hM2 : M ++ (if D.kind = 3 then siTys D.sig ++ bodyTys D.body else []) = L ++ tyDe D := by
          rw [hM, hL2, hL1]
          simp [tyDe]
         have hft2 : (p.decls.take (k + 1)).flatMap tyDe = M ++ (if D.kind = 3 then siTys D.sig ++ bodyTys D.body else []) := by rw [hft]; exact hM2.symm
         refine awp_plain 5 (by kernel_rfl) rfl (fun g15 hg15 => ?_)
         simp only [go_sem, hlj, ha5, Ne.symm hn5_g0]
         refine hK22 _ ?_
         refine awp_f rfl ?_
         refine awp_exit ?_
         refine hK19 _ ?_
         refine awp_seq_k (fun K24 hK24 => ?_)
         by_cases q3 : D.kind = 3
         ·have r3 := eq_true q3
          rw [if_pos q3] at hft2 hDl
          rw [List.length_append] at hDl
          refine awp_plain 3 (by kernel_rfl) rfl (fun g18 hg18 => ?_)
          simp only [go_sem, r3, decide_true, ha5, Ne.symm hn5_g0]
          refine hK24 _ ?_
          refine awp_t rfl ?_
          refine awp_seq_k (fun K25 hK25 => ?_)
          refine awp_ops (by kernel_rfl) rfl (fun g19 hg19 ops19 KR19 hops19 hKR19 => ?_)
          refine aops_eval 3 hops19 ?_
          simp only [go_sem, ha5, Ne.symm hn5_g0]
          have hsl := siTys_len' D.sig
          have hsg := deTys_sig D
          have hbg := deTys_body D
          refine aops_pure hops19 rfl rfl rfl (sigT_calls D.sig (by omega) (by omega) _ _) (CoL.refl _) ?_
          refine aops_app hops19 rfl rfl rfl rfl rfl es23 sz25 by25 ze25 rfl (by decide) ?_
          simp only [go_sem, okRowsTy, Ne.symm ha, Ne.symm ha5]
          first | refine ⟨⟨by omega, by omega⟩, ?_⟩ | skip
          have hn19_g0 : g19 ≠ g0 := fresh_g hg19 1 0 (by simp [go_sem])
          have hn19_g5 : g19 ≠ g5 := fresh_g hg19 5 0 (by simp [go_sem, Ne.symm hn5_g0])
          refine aops_last 1 hops19 ?_
          simp only [go_sem]
          refine hKR19 _ ?_
          refine hK25 _ ?_
          refine awp_ops (by kernel_rfl) rfl (fun g20 hg20 ops20 KR20 hops20 hKR20 => ?_)
          refine aops_eval 3 hops20 ?_
          simp only [go_sem, Ne.symm hn5_g0, hn19_g5]
          refine aops_pure hops20 rfl rfl rfl (bodyT_calls _ (smEx.ok _ hsm.2.2.2.2.2.2.2) (by have := nodesEx_le D.body; omega) (by have := bodyTys_le D.body; omega) _ _) (CoL.refl _) ?_
          refine aops_app hops20 rfl rfl rfl rfl rfl es23 sz25 by25 ze25 rfl (by decide) ?_
          simp only [go_sem, okRowsTy, Ne.symm hn19_g0, Ne.symm hn19_g5]
          first | refine ⟨⟨by omega, by omega⟩, ?_⟩ | skip
          have hn20_g0 : g20 ≠ g0 := fresh_g hg20 1 0 (by simp [go_sem, hn19_g0])
          refine aops_last 1 hops20 ?_
          simp only [go_sem]
          refine hKR20 _ ?_
          refine hK7 _ ?_
          refine awp_plain 3 (by kernel_rfl) rfl (fun g4 hg4 => ?_)
          simp only [go_sem]
          try simp (disch := omega) only [wrapN]
          refine ⟨_, ?_, k + 1, g20, 80, _, hlt, rfl, hn20_g0, hft2.symm, le_of ?_⟩
          ·omega
          simp only [go_sem, List.map_append, List.length_append, List.append_assoc, Nat.add_assoc, hn5_g0, hn20_g0, Ne.symm hn20_g0]
          all_goals first | exact rfl | exact ⟨rfl, rfl⟩ | trivial | omega
         ·have r3 := eq_false q3
          rw [if_neg q3, List.append_nil] at hft2
          refine awp_plain 3 (by kernel_rfl) rfl (fun g18 hg18 => ?_)
          simp only [go_sem, r3, decide_false, ha5, Ne.symm hn5_g0]
          refine hK24 _ ?_
          refine awp_f rfl ?_
          refine awp_skip ?_
          refine hK7 _ ?_
          refine awp_plain 3 (by kernel_rfl) rfl (fun g4 hg4 => ?_)
          simp only [go_sem]
          try simp (disch := omega) only [wrapN]
          refine ⟨_, ?_, k + 1, a, i, _, hlt, rfl, ha, hft2.symm, le_of ?_⟩
          ·omega
          simp only [go_sem, ha, Ne.symm ha, Ne.symm ha5, hn5_g0]
          all_goals first | exact rfl | exact ⟨rfl, rfl⟩ | trivial | omega
  ·have : k = p.decls.length := by omega
   subst this
   rw [List.take_length] at hL
   have hbl : L.length + (bodyTys p.main).length ≤ 1000000 := by rw [hL]; omega
   refine awp_plain 5 (by kernel_rfl) rfl (fun g3 hg3 => ?_)
   simp only [go_sem, hlt, ha]
   refine hK6 _ ?_
   refine awp_f rfl ?_
   refine awp_exit ?_
   refine hK3 _ ?_
   refine awp_seq_k (fun K26 hK26 => ?_)
   refine awp_ops (by kernel_rfl) rfl (fun g21 hg21 ops21 KR21 hops21 hKR21 => ?_)
   refine aops_eval 3 hops21 ?_
   simp only [go_sem, ha]
   refine aops_pure hops21 rfl rfl rfl (bodyT_calls _ (smEx.ok _ k3) (by have := nodesEx_le p.main; omega) (by have := bodyTys_le p.main; omega) _ _) (CoL.refl _) ?_
   refine aops_app hops21 rfl rfl rfl rfl rfl es23 sz25 by25 ze25 rfl (by decide) ?_
   simp only [go_sem, okRowsTy, Ne.symm ha]
   first | refine ⟨⟨by omega, by omega⟩, ?_⟩ | skip
   refine aops_last 1 hops21 ?_
   simp only [go_sem]
   refine hKR21 _ ?_
   refine hK26 _ ?_
   refine awp_ret ?_
   refine ret_frz ⟨g21, 85, 0⟩ ?_
   simp only [go_sem]
   refine ends_ev rfl ?_
   simp only [go_sem]
   exact Co.of_eq (by rw [hL]; simp [tyPr])
end Go.Proofs.T
namespace Go.Proofs.T
open Go Go.Ab Go.RowKit
theorem body_le {p : Prg} (hw : wN (prTys p) ≤ 600) : ∀ d ∈ p.decls, (nodesEx d.body).length ≤ 1000000 := fun d hd => by
 have h1 := nodesEx_le d.body
 have h2 := deTys_body d
 have h3 := wN_dec hd
 omega
theorem right_dec {p : Prg} (h : rightPr p = true) : ∀ d ∈ p.decls, rightDe d = true := by
 unfold rightPr at h
 rw [Bool.and_eq_true] at h
 exact List.all_eq_true.1 h.1
theorem setE_len (m : List Ed) : (setE m).length ≤ m.length := by
 have := putAll_len m []
 simpa [setE] using this
theorem deE_le {p : Prg} {d : Dec} (hd : d ∈ p.decls) : (deE d).length ≤ (prE p).length := by
 unfold prE
 generalize p.decls = l at *
 induction l with
 | nil => cases hd
 | cons x r ih =>
  rw [List.flatMap_cons, List.length_append]
  rcases List.mem_cons.1 hd with rfl | hd
  ·omega
  ·have := ih hd
   omega
end Go.Proofs.T
namespace Go.Proofs.T
open Go Go.Ab Go.RowKit
noncomputable def stE (d : Dec) : List Ed := setE (deE d)
end Go.Proofs.T
