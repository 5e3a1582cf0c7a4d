/- A part of the proof, under no conditions of its own: Dat. -/
import Derived.Test.YtomkekilpdkjgaaDoorAb16
/-
  The program's data in plain Lean, and how they are laid out.
-/
namespace Go.Ab
open Go

abbrev Str := ByteArray
/-- The greatest int. -/
abbrev MaxI : Nat := 9223372036854775807

inductive Ty where
  | mk (name : Str) (args : List Ty) (pos : Int)

namespace Ty
def name : Ty → Str | .mk n _ _ => n
def args : Ty → List Ty | .mk _ a _ => a
def pos : Ty → Int | .mk _ _ p => p
@[simp] theorem name_mk (n : Str) (a : List Ty) (p : Int) : (Ty.mk n a p).name = n := rfl
@[simp] theorem args_mk (n : Str) (a : List Ty) (p : Int) : (Ty.mk n a p).args = a := rfl
@[simp] theorem pos_mk (n : Str) (a : List Ty) (p : Int) : (Ty.mk n a p).pos = p := rfl
theorem eta (t : Ty) : Ty.mk t.name t.args t.pos = t := by cases t; rfl
end Ty

mutual
def encTy : Ty → D
  | .mk n a p => .agg [.val (.string n), .sl false (encTys a), .val (.int .i64 p)]
def encTys : List Ty → List D
  | [] => []
  | t :: r => encTy t :: encTys r
end

theorem encTys_eq : ∀ l, encTys l = l.map encTy
  | [] => by simp [encTys]
  | t :: r => by simp [encTys, encTys_eq r]

/-- The cells of a type. -/
def tyC (t : Ty) : List D := [.val (.string t.name), .sl false (t.args.map encTy), .val (.int .i64 t.pos)]

theorem encTy_agg (t : Ty) : encTy t = .agg (tyC t) := by cases t; simp [encTy, tyC, encTys_eq]
theorem encTy_cells (t : Ty) : (encTy t).cells = [.val (.string t.name), .sl false (t.args.map encTy), .val (.int .i64 t.pos)] := by rw [encTy_agg]; rfl
theorem encTy_fold (t : Ty) : D.agg [.val (.string t.name), .sl false (t.args.map encTy), .val (.int .i64 t.pos)] = encTy t := by rw [encTy_agg]; rfl
theorem encTy_mk (n : Str) (a : List Ty) (p : Int) : D.agg [.val (.string n), .sl false (a.map encTy), .val (.int .i64 p)] = encTy (.mk n a p) := by rw [encTy_agg]; rfl

/- All lengths fit. -/
mutual
def okTy : Ty → Prop
  | .mk n a _ => n.size ≤ 9223372036854775807 ∧ a.length ≤ 9223372036854775807 ∧ okTys a
def okTys : List Ty → Prop
  | [] => True
  | t :: r => okTy t ∧ okTys r
end

theorem okTys_iff : ∀ l, okTys l ↔ ∀ t ∈ l, okTy t
  | [] => by simp [okTys]
  | t :: r => by simp [okTys, okTys_iff r]

theorem okTy_iff (t : Ty) : okTy t ↔ t.name.size ≤ 9223372036854775807 ∧ t.args.length ≤ 9223372036854775807 ∧ ∀ x ∈ t.args, okTy x := by
  cases t
  simp [okTy, okTys_iff]

/-- Induction over types: a number that bounds the depth. -/
theorem Ty.ind {P : Ty → Prop} (h : ∀ t : Ty, (∀ x ∈ t.args, P x) → P t) : ∀ t, P t := by
  intro t
  generalize hn : SizeOf.sizeOf t = n
  induction n using Nat.strongRecOn generalizing t with
  | _ n ih =>
    refine h t fun x hx => ih (SizeOf.sizeOf x) ?_ x rfl
    subst hn
    cases t with
    | mk a l p =>
      have := List.sizeOf_lt_of_mem (show x ∈ l from hx)
      simp only [Ty.mk.sizeOf_spec]
      omega


structure Formal where
  name : Str
  bound : Ty
  pos : Int

structure Param where
  name : Str
  type : Ty
  pos : Int

structure Sig where
  name : Str
  formals : List Formal
  params : List Param
  result : Ty
  pos : Int

def fmC (f : Formal) : List D := [.val (.string f.name), .val (.string f.bound.name), .sl false (f.bound.args.map encTy), .val (.int .i64 f.bound.pos), .val (.int .i64 f.pos)]
def encFm (f : Formal) : D := .agg (fmC f)
def paC (p : Param) : List D := [.val (.string p.name), .val (.string p.type.name), .sl false (p.type.args.map encTy), .val (.int .i64 p.type.pos), .val (.int .i64 p.pos)]
def encPa (p : Param) : D := .agg (paC p)
def siC (s : Sig) : List D := [.val (.string s.name), .sl false (s.formals.map encFm), .sl false (s.params.map encPa), .val (.string s.result.name), .sl false (s.result.args.map encTy), .val (.int .i64 s.result.pos), .val (.int .i64 s.pos)]
def encSi (s : Sig) : D := .agg (siC s)

theorem encFm_cells (f : Formal) : (encFm f).cells = fmC f := rfl
theorem encPa_cells (f : Param) : (encPa f).cells = paC f := rfl
theorem encSi_cells (f : Sig) : (encSi f).cells = siC f := rfl
theorem encFm_fold (n : Str) (t : Ty) (p : Int) : D.agg [.val (.string n), .val (.string t.name), .sl false (t.args.map encTy), .val (.int .i64 t.pos), .val (.int .i64 p)] = encFm ⟨n, t, p⟩ := rfl
theorem encPa_fold (n : Str) (t : Ty) (p : Int) : D.agg [.val (.string n), .val (.string t.name), .sl false (t.args.map encTy), .val (.int .i64 t.pos), .val (.int .i64 p)] = encPa ⟨n, t, p⟩ := rfl
theorem encSi_fold (n : Str) (f : List Formal) (ps : List Param) (t : Ty) (p : Int) :
    D.agg [.val (.string n), .sl false (f.map encFm), .sl false (ps.map encPa), .val (.string t.name), .sl false (t.args.map encTy), .val (.int .i64 t.pos), .val (.int .i64 p)] = encSi ⟨n, f, ps, t, p⟩ := rfl

/-- A slice of types, of formals, of texts. -/
def slTy (l : List Ty) : D := .sl false (l.map encTy)
def slFm (l : List Formal) : D := .sl false (l.map encFm)
def slPa (l : List Param) : D := .sl false (l.map encPa)
def encS (s : Str) : D := .val (.string s)
def slS (l : List Str) : D := .sl false (l.map encS)
abbrev dI (n : Int) : D := .val (.int .i64 n)
abbrev dN (n : Nat) : D := .val (.int .i64 (n : Int))
abbrev dB (b : Bool) : D := .val (.bool b)

theorem dropN {α : Type} (l : List α) (k : Nat) (h : l.length ≤ k) : l.drop k = [] := List.drop_eq_nil_of_le h
theorem dropC {α : Type} (l : List α) (k : Nat) (h : k < l.length) : l.drop k = l[k] :: l.drop (k + 1) := List.drop_eq_getElem_cons h

theorem getM {α : Type} {f : α → D} {l : List α} {k : Nat} (h : k < l.length) : (l.map f)[k]? = some (f l[k]) := by
  rw [List.getElem?_map, List.getElem?_eq_getElem h]; rfl

def okFm (f : Formal) : Prop := f.name.size ≤ 9223372036854775807 ∧ okTy f.bound
def okPa (f : Param) : Prop := f.name.size ≤ 9223372036854775807 ∧ okTy f.type
def okSi (s : Sig) : Prop := s.name.size ≤ 9223372036854775807 ∧ (s.formals.length ≤ 9223372036854775807 ∧ ∀ f ∈ s.formals, okFm f) ∧ (s.params.length ≤ 9223372036854775807 ∧ ∀ f ∈ s.params, okPa f) ∧ okTy s.result

attribute [go_sem] encTy_cells encTy_mk Ty.eta Ty.name_mk Ty.args_mk Ty.pos_mk encFm_cells encPa_cells encSi_cells encFm encPa fmC paC siC encS slTy slFm slPa slS List.length_map


inductive Ex where
  | mk (kind : Int) (name : Str) (type : Ty) (targs : List Ty) (kids : List Ex) (pos : Int)

namespace Ex
def kind : Ex → Int | .mk k _ _ _ _ _ => k
def name : Ex → Str | .mk _ n _ _ _ _ => n
def type : Ex → Ty | .mk _ _ t _ _ _ => t
def targs : Ex → List Ty | .mk _ _ _ a _ _ => a
def kids : Ex → List Ex | .mk _ _ _ _ c _ => c
def pos : Ex → Int | .mk _ _ _ _ _ p => p
section
variable (k : Int) (n : Str) (t : Ty) (a : List Ty) (c : List Ex) (p : Int)
@[simp] theorem kind_mk : (Ex.mk k n t a c p).kind = k := rfl
@[simp] theorem name_mk : (Ex.mk k n t a c p).name = n := rfl
@[simp] theorem type_mk : (Ex.mk k n t a c p).type = t := rfl
@[simp] theorem targs_mk : (Ex.mk k n t a c p).targs = a := rfl
@[simp] theorem kids_mk : (Ex.mk k n t a c p).kids = c := rfl
@[simp] theorem pos_mk : (Ex.mk k n t a c p).pos = p := rfl
end
theorem eta (e : Ex) : Ex.mk e.kind e.name e.type e.targs e.kids e.pos = e := by cases e; rfl
end Ex

mutual
def encEx : Ex → D
  | .mk k n t a c p => .agg [.val (.int .i64 k), .val (.string n), .val (.string t.name), .sl false (t.args.map encTy), .val (.int .i64 t.pos), .sl false (a.map encTy), .sl false (encExs c), .val (.int .i64 p)]
def encExs : List Ex → List D
  | [] => []
  | t :: r => encEx t :: encExs r
end

theorem encExs_eq : ∀ l, encExs l = l.map encEx
  | [] => by simp [encExs]
  | t :: r => by simp [encExs, encExs_eq r]

def exC (e : Ex) : List D := [.val (.int .i64 e.kind), .val (.string e.name), .val (.string e.type.name), .sl false (e.type.args.map encTy), .val (.int .i64 e.type.pos), .sl false (e.targs.map encTy), .sl false (e.kids.map encEx), .val (.int .i64 e.pos)]
theorem encEx_agg (e : Ex) : encEx e = .agg (exC e) := by cases e; simp [encEx, exC, encExs_eq]
theorem encEx_cells (e : Ex) : (encEx e).cells = [.val (.int .i64 e.kind), .val (.string e.name), .val (.string e.type.name), .sl false (e.type.args.map encTy), .val (.int .i64 e.type.pos), .sl false (e.targs.map encTy), .sl false (e.kids.map encEx), .val (.int .i64 e.pos)] := by rw [encEx_agg]; rfl
theorem encEx_mk (k : Int) (n : Str) (t : Ty) (a : List Ty) (c : List Ex) (p : Int) :
    D.agg [.val (.int .i64 k), .val (.string n), .val (.string t.name), .sl false (t.args.map encTy), .val (.int .i64 t.pos), .sl false (a.map encTy), .sl false (c.map encEx), .val (.int .i64 p)] = encEx (.mk k n t a c p) := by rw [encEx_agg]; rfl

theorem Ex.ind {P : Ex → Prop} (h : ∀ t : Ex, (∀ x ∈ t.kids, P x) → P t) : ∀ t, P t := by
  intro t
  generalize hn : SizeOf.sizeOf t = n
  induction n using Nat.strongRecOn generalizing t with
  | _ n ih =>
    refine h t fun x hx => ih (SizeOf.sizeOf x) ?_ x rfl
    subst hn
    cases t with
    | mk k nm ty a l p =>
      have := List.sizeOf_lt_of_mem (show x ∈ l from hx)
      simp only [Ex.mk.sizeOf_spec]
      omega

mutual
def okEx : Ex → Prop
  | .mk _ n t a c _ => n.size ≤ 9223372036854775807 ∧ okTy t ∧ (a.length ≤ 9223372036854775807 ∧ ∀ x ∈ a, okTy x) ∧ c.length ≤ 9223372036854775807 ∧ okExs c
def okExs : List Ex → Prop
  | [] => True
  | t :: r => okEx t ∧ okExs r
end
theorem okExs_iff : ∀ l, okExs l ↔ ∀ t ∈ l, okEx t
  | [] => by simp [okExs]
  | t :: r => by simp [okExs, okExs_iff r]
theorem okEx_iff (e : Ex) : okEx e ↔ e.name.size ≤ 9223372036854775807 ∧ okTy e.type ∧ (e.targs.length ≤ 9223372036854775807 ∧ ∀ x ∈ e.targs, okTy x) ∧ e.kids.length ≤ 9223372036854775807 ∧ ∀ x ∈ e.kids, okEx x := by
  cases e
  simp [okEx, okExs_iff]

structure Dec where
  kind : Int
  name : Str
  formals : List Formal
  fields : List Param
  sigs : List Sig
  recv : Str
  vars : List Str
  sig : Sig
  body : Ex
  pos : Int

def deC (d : Dec) : List D := [.val (.int .i64 d.kind), .val (.string d.name), .sl false (d.formals.map encFm), .sl false (d.fields.map encPa), .sl false (d.sigs.map encSi), .val (.string d.recv), .sl false (d.vars.map encS)] ++ siC d.sig ++ exC d.body ++ [.val (.int .i64 d.pos)]
def encDe (d : Dec) : D := .agg (deC d)
theorem encDe_cells (d : Dec) : (encDe d).cells = deC d := rfl

structure Prg where
  decls : List Dec
  main : Ex
def prC (p : Prg) : List D := [.sl false (p.decls.map encDe)] ++ exC p.main
def encPr (p : Prg) : D := .agg (prC p)
theorem encPr_cells (p : Prg) : (encPr p).cells = prC p := rfl

def slSi (l : List Sig) : D := .sl false (l.map encSi)
def slEx (l : List Ex) : D := .sl false (l.map encEx)
def slDe (l : List Dec) : D := .sl false (l.map encDe)

def okDe (d : Dec) : Prop := d.name.size ≤ 9223372036854775807 ∧ (d.formals.length ≤ 9223372036854775807 ∧ ∀ f ∈ d.formals, okFm f) ∧ (d.fields.length ≤ 9223372036854775807 ∧ ∀ f ∈ d.fields, okPa f) ∧
  (d.sigs.length ≤ 9223372036854775807 ∧ ∀ f ∈ d.sigs, okSi f) ∧ d.recv.size ≤ 9223372036854775807 ∧ (d.vars.length ≤ 9223372036854775807 ∧ ∀ v ∈ d.vars, v.size ≤ 9223372036854775807) ∧ okSi d.sig ∧ okEx d.body
def okPr (p : Prg) : Prop := (p.decls.length ≤ 9223372036854775807 ∧ ∀ f ∈ p.decls, okDe f) ∧ okEx p.main

attribute [go_sem] encEx_cells encEx_mk Ex.eta Ex.kind_mk Ex.name_mk Ex.type_mk Ex.targs_mk Ex.kids_mk Ex.pos_mk encDe_cells encPr_cells encDe encPr deC prC exC slSi slEx slDe

end Go.Ab
