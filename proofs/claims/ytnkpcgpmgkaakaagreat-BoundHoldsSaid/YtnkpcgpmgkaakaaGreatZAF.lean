/- A part of the proof: ZAF. -/
import Derived.Test.YtnkpcgpmgkaakaaGreatZAE
import Derived.KernelRfl
import Derived.Lib.LaidTab
import Derived.Sort.Grow
import Derived.Shelf.Spec.SlicesGrow
import Derived.Deep.Draws
import Derived.ProofKit
import Derived.LaidMore
import Derived.OpenShut
import Derived.Carry
import Derived.Stop.Joined
import Derived.Stop.Asserts
import Derived.Laws.Externs
namespace Go.Ab
open Go
abbrev Str:=ByteArray
abbrev MaxI:Nat:=9223372036854775807
inductive Ty where
 | mk (name:Str) (args:List Ty) (pos:Int)
namespace Ty
def name:Ty→Str | .mk n _ _=>n
def args:Ty→List Ty | .mk _ a _=>a
def pos:Ty→Int | .mk _ _ p=>p
@[simp] theorem name_mk (n:Str) (a:List Ty) (p:Int):(Ty.mk n a p).name=n:=rfl
@[simp] theorem args_mk (n:Str) (a:List Ty) (p:Int):(Ty.mk n a p).args=a:=rfl
@[simp] theorem pos_mk (n:Str) (a:List Ty) (p:Int):(Ty.mk n a p).pos=p:=rfl
theorem eta (t:Ty):Ty.mk t.name t.args t.pos=t:=by cases t; rfl
end Ty
mutual
def AC:Ty→D
 | .mk n a p=>.agg [.val (.string n),.sl false (LY a),.val (.int .i64 p)]
def LY:List Ty→List D
 | []=>[]
 | t :: r=>AC t :: LY r
end
theorem Q1:∀ l,LY l=l.map AC
 | []=>by simp[LY]
 | t :: r=>by simp[LY,Q1 r]
def tyC (t:Ty):List D:=[.val (.string t.name),.sl false (t.args.map AC),.val (.int .i64 t.pos)]
theorem C0 (t:Ty):AC t=.agg (tyC t):=by cases t; simp[AC,tyC,Q1]
theorem JE (t:Ty):(AC t).cells=[.val (.string t.name),.sl false (t.args.map AC),.val (.int .i64 t.pos)]:=by rw[C0]; rfl
theorem Wb (t:Ty):D.agg [.val (.string t.name),.sl false (t.args.map AC),.val (.int .i64 t.pos)]=AC t:=by rw[C0]; rfl
theorem KN (n:Str) (a:List Ty) (p:Int):D.agg [.val (.string n),.sl false (a.map AC),.val (.int .i64 p)]=AC (.mk n a p):=by rw[C0]; rfl
/- All lengths fit. -/
mutual
def okTy:Ty→Prop
 | .mk n a _=>n.size≤9223372036854775807∧a.length≤9223372036854775807∧Jg a
def Jg:List Ty→Prop
 | []=>True
 | t :: r=>okTy t∧Jg r
end
theorem Q2:∀ l,Jg l↔∀ t∈l,okTy t
 | []=>by simp[Jg]
 | t :: r=>by simp[Jg,Q2 r]
theorem DJ (t:Ty):okTy t↔t.name.size≤9223372036854775807∧t.args.length≤9223372036854775807∧∀ x∈t.args,okTy x:=by
 cases t;simp[okTy,Q2]
theorem Ty.ind {P:Ty→Prop} (h:∀ t:Ty,(∀ x∈t.args,P x)→P t):∀ t,P t:=by
 intro t;generalize b:SizeOf.sizeOf t=n;induction n using Nat.strongRecOn generalizing t with
 | _ n ih =>
  refine h t fun x c=>ih (SizeOf.sizeOf x) ?_ x rfl;subst b;cases t with
  | mk a l p =>
   have:=List.sizeOf_lt_of_mem (show x∈l from c);simp only[Ty.mk.sizeOf_spec];omega
structure Formal where
 name:Str
 bound:Ty
 pos:Int
structure Param where
 name:Str
 type:Ty
 pos:Int
structure Sig where
 name:Str
 formals:List Formal
 params:List Param
 result:Ty
 pos:Int
def fmC (f:Formal):List D:=[.val (.string f.name),.val (.string f.bound.name),.sl false (f.bound.args.map AC),.val (.int .i64 f.bound.pos),.val (.int .i64 f.pos)]
def Bz (f:Formal):D:=.agg (fmC f)
def paC (p:Param):List D:=[.val (.string p.name),.val (.string p.type.name),.sl false (p.type.args.map AC),.val (.int .i64 p.type.pos),.val (.int .i64 p.pos)]
def Bt (p:Param):D:=.agg (paC p)
def siC (s:Sig):List D:=[.val (.string s.name),.sl false (s.formals.map Bz),.sl false (s.params.map Bt),.val (.string s.result.name),.sl false (s.result.args.map AC),.val (.int .i64 s.result.pos),.val (.int .i64 s.pos)]
def AH (s:Sig):D:=.agg (siC s)
theorem Uv (f:Formal):(Bz f).cells=fmC f:=rfl
theorem Uw (f:Param):(Bt f).cells=paC f:=rfl
theorem Ux (f:Sig):(AH f).cells=siC f:=rfl
def slTy (l:List Ty):D:=.sl false (l.map AC)
def slFm (l:List Formal):D:=.sl false (l.map Bz)
def slPa (l:List Param):D:=.sl false (l.map Bt)
def encS (s:Str):D:=.val (.string s)
def slS (l:List Str):D:=.sl false (l.map encS)
abbrev dI (n:Int):D:=.val (.int .i64 n)
abbrev dN (n:Nat):D:=.val (.int .i64 (n:Int))
abbrev dB (b:Bool):D:=.val (.bool b)
theorem DF {α:Type} (l:List α) (k:Nat) (h:l.length≤k):l.drop k=[]:=fp h
theorem MT {α:Type} (l:List α) (k:Nat) (h:k < l.length):l.drop k=l[k] :: l.drop (k + 1):=ek h
theorem getM {α:Type} {f:α→D} {l:List α} {k:Nat} (h:k < l.length):(l.map f)[k]?=some (f l[k]):=by
 rw[eK,dO h]; rfl
def okFm (f:Formal):Prop:=f.name.size≤9223372036854775807∧okTy f.bound
def okPa (f:Param):Prop:=f.name.size≤9223372036854775807∧okTy f.type
def okSi (s:Sig):Prop:=s.name.size≤9223372036854775807∧(s.formals.length≤9223372036854775807∧∀ f∈s.formals,okFm f)∧(s.params.length≤9223372036854775807∧∀ f∈s.params,okPa f)∧okTy s.result
attribute [go_sem] JE KN Ty.eta Ty.name_mk Ty.args_mk Ty.pos_mk Uv Uw Ux Bz Bt fmC paC siC encS slTy slFm slPa slS List.length_map
inductive Ex where
 | mk (kind:Int) (name:Str) (type:Ty) (targs:List Ty) (kids:List Ex) (pos:Int)
namespace Ex
def kind:Ex→Int | .mk k _ _ _ _ _=>k
def name:Ex→Str | .mk _ n _ _ _ _=>n
def type:Ex→Ty | .mk _ _ t _ _ _=>t
def targs:Ex→List Ty | .mk _ _ _ a _ _=>a
def kids:Ex→List Ex | .mk _ _ _ _ c _=>c
def pos:Ex→Int | .mk _ _ _ _ _ p=>p
section
variable (k:Int) (n:Str) (t:Ty) (a:List Ty) (c:List Ex) (p:Int)
@[simp] theorem kind_mk:(Ex.mk k n t a c p).kind=k:=rfl
@[simp] theorem name_mk:(Ex.mk k n t a c p).name=n:=rfl
@[simp] theorem type_mk:(Ex.mk k n t a c p).type=t:=rfl
@[simp] theorem targs_mk:(Ex.mk k n t a c p).targs=a:=rfl
@[simp] theorem kids_mk:(Ex.mk k n t a c p).kids=c:=rfl
@[simp] theorem pos_mk:(Ex.mk k n t a c p).pos=p:=rfl
end
theorem eta (e:Ex):Ex.mk e.kind e.name e.type e.targs e.kids e.pos=e:=by cases e; rfl
end Ex
mutual
def AK:Ex→D
 | .mk k n t a c p=>.agg [.val (.int .i64 k),.val (.string n),.val (.string t.name),.sl false (t.args.map AC),.val (.int .i64 t.pos),.sl false (a.map AC),.sl false (LZ c),.val (.int .i64 p)]
def LZ:List Ex→List D
 | []=>[]
 | t :: r=>AK t :: LZ r
end
theorem Q3:∀ l,LZ l=l.map AK
 | []=>by simp[LZ]
 | t :: r=>by simp[LZ,Q3 r]
def exC (e:Ex):List D:=[.val (.int .i64 e.kind),.val (.string e.name),.val (.string e.type.name),.sl false (e.type.args.map AC),.val (.int .i64 e.type.pos),.sl false (e.targs.map AC),.sl false (e.kids.map AK),.val (.int .i64 e.pos)]
theorem El (e:Ex):AK e=.agg (exC e):=by cases e; simp[AK,exC,Q3]
theorem Nt (e:Ex):(AK e).cells=[.val (.int .i64 e.kind),.val (.string e.name),.val (.string e.type.name),.sl false (e.type.args.map AC),.val (.int .i64 e.type.pos),.sl false (e.targs.map AC),.sl false (e.kids.map AK),.val (.int .i64 e.pos)]:=by rw[El]; rfl
theorem YY (k:Int) (n:Str) (t:Ty) (a:List Ty) (c:List Ex) (p:Int) :
  D.agg [.val (.int .i64 k),.val (.string n),.val (.string t.name),.sl false (t.args.map AC),.val (.int .i64 t.pos),.sl false (a.map AC),.sl false (c.map AK),.val (.int .i64 p)]=AK (.mk k n t a c p):=by rw[El]; rfl
theorem Ex.ind {P:Ex→Prop} (h:∀ t:Ex,(∀ x∈t.kids,P x)→P t):∀ t,P t:=by
 intro t;generalize b:SizeOf.sizeOf t=n;induction n using Nat.strongRecOn generalizing t with
 | _ n ih =>
  refine h t fun x c=>ih (SizeOf.sizeOf x) ?_ x rfl;subst b;cases t with
  | mk k d e a l p =>
   have:=List.sizeOf_lt_of_mem (show x∈l from c);simp only[Ex.mk.sizeOf_spec];omega
mutual
def okEx:Ex→Prop
 | .mk _ n t a c _=>n.size≤9223372036854775807∧okTy t∧(a.length≤9223372036854775807∧∀ x∈a,okTy x)∧c.length≤9223372036854775807∧MU c
def MU:List Ex→Prop
 | []=>True
 | t :: r=>okEx t∧MU r
end
theorem Q4:∀ l,MU l↔∀ t∈l,okEx t
 | []=>by simp[MU]
 | t :: r=>by simp[MU,Q4 r]
theorem EW (e:Ex):okEx e↔e.name.size≤9223372036854775807∧okTy e.type∧(e.targs.length≤9223372036854775807∧∀ x∈e.targs,okTy x)∧e.kids.length≤9223372036854775807∧∀ x∈e.kids,okEx x:=by
 cases e;simp[okEx,Q4]
structure Dec where
 kind:Int
 name:Str
 formals:List Formal
 fields:List Param
 sigs:List Sig
 recv:Str
 vars:List Str
 sig:Sig
 body:Ex
 pos:Int
def deC (d:Dec):List D:=[.val (.int .i64 d.kind),.val (.string d.name),.sl false (d.formals.map Bz),.sl false (d.fields.map Bt),.sl false (d.sigs.map AH),.val (.string d.recv),.sl false (d.vars.map encS)]++siC d.sig++exC d.body++[.val (.int .i64 d.pos)]
def Ce (d:Dec):D:=.agg (deC d)
theorem Uy (d:Dec):(Ce d).cells=deC d:=rfl
structure Prg where
 decls:List Dec
 main:Ex
def prC (p:Prg):List D:=[.sl false (p.decls.map Ce)]++exC p.main
def AZ (p:Prg):D:=.agg (prC p)
theorem Uz (p:Prg):(AZ p).cells=prC p:=rfl
def slSi (l:List Sig):D:=.sl false (l.map AH)
def slEx (l:List Ex):D:=.sl false (l.map AK)
def slDe (l:List Dec):D:=.sl false (l.map Ce)
def okDe (d:Dec):Prop:=d.name.size≤9223372036854775807∧(d.formals.length≤9223372036854775807∧∀ f∈d.formals,okFm f)∧(d.fields.length≤9223372036854775807∧∀ f∈d.fields,okPa f) ∧
 (d.sigs.length≤9223372036854775807∧∀ f∈d.sigs,okSi f)∧d.recv.size≤9223372036854775807∧(d.vars.length≤9223372036854775807∧∀ v∈d.vars,v.size≤9223372036854775807)∧okSi d.sig∧okEx d.body
def okPr (p:Prg):Prop:=(p.decls.length≤9223372036854775807∧∀ f∈p.decls,okDe f)∧okEx p.main
attribute [go_sem] Nt YY Ex.eta Ex.kind_mk Ex.name_mk Ex.type_mk Ex.targs_mk Ex.kids_mk Ex.pos_mk Uy Uz Ce AZ deC prC exC slSi slEx slDe
end Go.Ab
namespace Go.Ab
open Go Go.RowKit
section
variable {E:Ctx} {N:Nat} {st:St} {K:St→Prop} {Q:Exit→St→Prop}
theorem abY {c:Operand} {x y:Code} (hc:ev E st.env c=.val (.bool true)) (h:AWp E N x Q st):AWp E N (.cond c x y) Q st:=Sz hc (by simpa using h)
theorem abZ {c:Operand} {x y:Code} (hc:ev E st.env c=.val (.bool false)) (h:AWp E N y Q st):AWp E N (.cond c x y) Q st:=Sz hc (by simpa using h)
def HV (n:Nm) (ks:KS) (es:List (Value × D)):D→D
 | .mref m=>if m=n then .fmap ks es else .mref m
 | d=>d
theorem Xr {K:St→Prop} (n:Nm) {ks:KS} {es:List (Value × D)} (hn:get st.σ n=some (.map ks es))
  (h:K { env:=DO (HV n ks es) st.env,σ:=Dq (HV n ks es) (del st.σ n) }):Sees E st K:=by
 refine KI hn (HV n ks es) (fun _ _ w _ _ g s k c o f x d j=>?_) h;have keep:V k w x d:=j.mono c (fun _ _=>rfl) (fun m u a=>by rw[f]; exact a);cases j with
 | mref t =>
  rename_i m r;simp only[HV];split
  ·rename_i b;subst b;rw[t] at g;cases g;obtain ⟨F,C,l,p,q,v,y,z,A,B⟩:=s;cases p;exact .fmap C l (o _ rfl) q v y z A fun i m e a b=>(B i m e a b).mono c (fun _ _=>rfl) (fun m u a=>by rw[f]; exact a)
  ·exact keep
 | _=>exact keep
def Fresh (σ:Sto) (g:Nat):Prop:=∀ i j,get σ ⟨g,i,j⟩=none
theorem Ar {σ:Sto} {g a:Nat} (hg:∀ i j,get σ ⟨g,i,j⟩=none) (i j:Nat) (h:get σ ⟨a,i,j⟩≠none):g≠a:=fun e=>h (e ▸ hg i j)
def Gw (el:TypeId) (k:Nat):Ob→Option (List D)
 | .arr t k' rows=>if t=el∧k'=k then some rows else none
 | _=>none
theorem Wc (k:Nat) (r:D) (l:List D):BO k (r :: l)↔(r.cells.length=k∧r.cells.all D.one=true)∧BO k l :=
 ⟨fun h=>⟨h r dY,fun x hx=>h x (ea _ hx)⟩,fun h=>Us h.1 h.2⟩
theorem UA (k:Nat):BO k []↔True:=⟨fun _=>trivial,fun _=>V7 k⟩
variable {ops:List Oper} {ds:List (Option Tmp)} {g:Nat}
theorem AG {o:Oper} {r:List Oper} {t el:TypeId} {so x:Operand} {d:Nat} (hds:ops.map (·.dst)=ds) (hw:Cv ds st.env o.guard=some true) (hop:o.op=.call { callee:=.builtin .append,args:=#[so,x],argTypes:=#[t,t] }) (hd:o.dst=some d)
  {n:Nm} {len:Nat} (hs:ev E st.env so=.own n len) {xf:Bool} {rows2:List D} (hx:ev E st.env x=.sl xf rows2) {k:Nat}
  (he:AM E.P t=some el) (hk:szOf E.P el=some k) {bs:Nat} (hbs:AJ E.P el=some bs) {z:Value} (hz:AL E.P el=some z) (hzs:z.cells.size=k) (hk0:0 < k)
  (h:SomeP (get st.σ n) fun ob=>SomeP (Gw el k ob) fun rows=>BO k rows2∧(rows.length + rows2.length≤9223372036854775807∧(rows.length + rows2.length) * bs≤140737488355328) ∧
   AOps E N ops g K r { env:=(d,.own ⟨g,d,0⟩ (rows.length + rows2.length)) :: st.env,σ:=(⟨g,d,0⟩,.arr el k (rows++rows2)) :: del st.σ n }):AOps E N ops g K (o :: r) st:=by
 obtain ⟨ob,c,h⟩:=h.elim;obtain ⟨rows,a,e,b,f⟩:=h.elim;cases ob with
 | arr m j l =>
  simp only[Gw] at a;split at a
  ·rename_i i;obtain ⟨rfl,rfl⟩:=i;cases a;exact Ut hds hw hop hd hs c hx he hk hbs hz hzs hk0 e b.1 b.2 f
  ·cases a
 | _=>cases a
end
def L3:Ob→Option (List D)
 | .arr _ _ rows=>some rows
 | _=>none
def aaa:Ob→Option (TypeId × List D)
 | .box t cs=>some (t,cs)
 | _=>none
def Qk:Ob→Option (KS × List (Value × D))
 | .map ks es=>some (ks,es)
 | _=>none
def GZ:Ob→Option (List D)
 | .box _ cs=>some cs
 | _=>none
section
variable {E:Ctx} {N:Nat} {st:St} {Q:Exit→St→Prop}
theorem IE {K:St→Prop} (n:Nm) (h:SomeP (get st.σ n) fun ob=>SomeP (L3 ob) fun rows=>K { env:=DO (frzD n rows) st.env,σ:=Dq (frzD n rows) (del st.σ n) }):Sees E st K:=by
 obtain ⟨ob,b,h⟩:=h.elim;obtain ⟨rows,a,h⟩:=h.elim;cases ob with
 | arr t k c=>cases a; exact Uu n b h
 | _=>cases a
theorem Ql {K:St→Prop} (n:Nm) (h:SomeP (get st.σ n) fun ob=>SomeP (GZ ob) fun cs=>K { env:=DO (boxD n cs) st.env,σ:=Dq (boxD n cs) (del st.σ n) }):Sees E st K:=by
 obtain ⟨ob,b,h⟩:=h.elim;obtain ⟨c,a,h⟩:=h.elim;cases ob with
 | box t cs=>cases a; exact YV n b h
 | _=>cases a
theorem Ch {c:Code} (n:Nm) (h:SomeP (get st.σ n) fun ob=>SomeP (L3 ob) fun rows=>AWp E N c Q { env:=DO (frzD n rows) st.env,σ:=Dq (frzD n rows) (del st.σ n) }):AWp E N c Q st:=Sees.awp (IE n h)
theorem Xs {c:Code} (n:Nm) (h:SomeP (get st.σ n) fun ob=>SomeP (GZ ob) fun cs=>AWp E N c Q { env:=DO (boxD n cs) st.env,σ:=Dq (boxD n cs) (del st.σ n) }):AWp E N c Q st:=Sees.awp (Ql n h)
theorem YZ {K:St→Prop} (n:Nm) (h:SomeP (get st.σ n) fun ob=>SomeP (Qk ob) fun m=>K { env:=DO (HV n m.1 m.2) st.env,σ:=Dq (HV n m.1 m.2) (del st.σ n) }):Sees E st K:=by
 obtain ⟨ob,b,h⟩:=h.elim;obtain ⟨m,a,h⟩:=h.elim;cases ob with
 | map d c=>cases a; exact Xr n b h
 | _=>cases a
theorem SX {fn:Func} {g d:Nat} {r:D} {σ' : Sto} (n:Nm) (h:SomeP (get st.σ n) fun ob=>SomeP (Qk ob) fun m=>retQ E fn g d r σ' .ret { env:=DO (HV n m.1 m.2) st.env,σ:=Dq (HV n m.1 m.2) (del st.σ n) }):retQ E fn g d r σ' .ret st:=Ends.sees (YZ n h)
theorem Bh {c:Code} (t:Nat) (ty:TypeId) (k:Nat) (ht:lk st.env t=some (.val (.slice none 0 0))) (h:∀ g,(∀ i j,get st.σ ⟨g,i,j⟩=none)→AWp E N c Q { env:=(t,.own ⟨g,0,0⟩ 0) :: st.env,σ:=(⟨g,0,0⟩,.arr ty k []) :: st.σ }):AWp E N c Q st:=Sees.awp (SV t ty k ht h)
theorem Di {c:Code} (m:Nm) (i:Nat) (ty:TypeId) (k:Nat)
  (h:SomeP (get st.σ m) fun ob=>SomeP (aaa ob) fun b=>b.2[i]?=some (.val (.slice none 0 0))∧∀ g,Fresh st.σ g→AWp E N c Q { env:=st.env,σ:=(⟨g,0,0⟩,.arr ty k []) :: set st.σ m (.box b.1 (b.2.set i (.own ⟨g,0,0⟩ 0))) }):AWp E N c Q st:=by
 obtain ⟨ob,d,h⟩:=h.elim;obtain ⟨b,a,e,h⟩:=h.elim;cases ob with
 | box t f=>cases a; exact Sees.awp (SW m i ty k d e h)
 | _=>cases a
theorem AY {fn:Func} {g d:Nat} {r:D} {σ' : Sto} (n:Nm) (h:SomeP (get st.σ n) fun ob=>SomeP (L3 ob) fun rows=>retQ E fn g d r σ' .ret { env:=DO (frzD n rows) st.env,σ:=Dq (frzD n rows) (del st.σ n) }):retQ E fn g d r σ' .ret st:=Ends.sees (IE n h)
end
theorem aav {E:Ctx} {st:St} {fn:Func} {g d:Nat} {r:D} {l:List ResultVar} (hl:fn.results=l.toArray) (h:SomeP (resD E.P st l) fun ds=>Co (resV ds) r):retQ E fn g d r [] .ret st:=by
 obtain ⟨ds,a,b⟩:=h.elim;exact Pd hl a b fun _ c=>nomatch c
def Gx (σ:Sto):List Nm→Nat→Option (List (Nm × Nat × Ob))
 | [],_=>some []
 | n :: r,j=>match get σ n with
  | some o=>(Gx σ r (j + 1)).map fun l=>(n,j,o) :: l
  | none=>none
def Ss (n:Nm):List Nm→Prop
 | []=>True
 | m :: r=>¬ n=m∧Ss n r
def apart:List Nm→Prop
 | []=>True
 | n :: r=>Ss n r∧apart r
theorem HB {σ:Sto}:∀ {ns:List Nm} {j:Nat} {l:List (Nm × Nat × Ob)},Gx σ ns j=some l→∀ e∈l,get σ e.1=some e.2.2∧e.1∈ns∧j≤e.2.1∧look l e.2.1=some (e.1,e.2.2)
 | [],j,l,h,e,he=>by simp only[Gx,Option.some.injEq] at h; subst h; cases he
 | n :: r,j,l,h,e,he=>by
  simp only[Gx] at h;split at h
  ·rename_i o ho;cases hr:Gx σ r (j + 1) with
   | none=>rw[hr] at h; cases h
   | some l' =>
    rw[hr] at h;cases h;rcases eq.1 he with rfl | he'
    ·exact ⟨ho,dY,ec _,by simp[look]⟩
    ·obtain ⟨h1,h2,h3,h4⟩:=HB hr e he';exact ⟨h1,ea _ h2,by omega,by simp only[look]; rw[if_neg (by omega)]; exact h4⟩
  ·cases h
theorem KO {n:Nm}:∀ {l:List Nm},Ss n l→n∉l
 | [],_=>by simp
 | m :: r,h=>by simp only[eq,not_or]; exact ⟨h.1,KO h.2⟩
theorem SY {σ:Sto}:∀ {ns:List Nm} {j:Nat} {l:List (Nm × Nat × Ob)},apart ns→Gx σ ns j=some l→∀ e∈l,∀ e'∈l,e.2.1≠e'.2.1→e.1≠e'.1
 | [],j,l,_,h,e,he=>by simp only[Gx,Option.some.injEq] at h; subst h; cases he
 | n :: r,j,l,ha,h,e,he=>by
  simp only[Gx] at h;split at h
  ·rename_i o ho;cases hr:Gx σ r (j + 1) with
   | none=>rw[hr] at h; cases h
   | some l' =>
    rw[hr] at h;cases h;intro e' he';rcases eq.1 he with rfl | he <;> rcases eq.1 he' with rfl | he'
    ·intro h; exact absurd rfl h
    ·intro _ heq;exact KO ha.1 ((show n=e'.1 from heq) ▸ (HB hr e' he').2.1)
    ·intro _ heq;exact KO ha.1 ((show e.1=n from heq) ▸ (HB hr e he).2.1)
    ·exact SY ha.2 hr e he e' he'
  ·cases h
theorem DK {E:Ctx} {st:St} {fn:Func} {g d:Nat} {r:D} {σ' : Sto} {l:List ResultVar} (ns:List Nm) (hl:fn.results=l.toArray)
  (h:SomeP (resD E.P st l) fun ds=>SomeP (Gx st.σ ns 1) fun ren=>apart ns∧σ'=Gv g d ren∧Co ((resV ds).sub (·.sub (renD g d ren))) r):retQ E fn g d r σ' .ret st:=by
 obtain ⟨ds,c,h⟩:=h.elim;obtain ⟨ren,a,f,rfl,i⟩:=h.elim;exact YW hl c ren (fun e b=>⟨(HB a e b).1,(HB a e b).2.2.2⟩) (SY f a) i
theorem Co.of_eq {d d' : D} (h:d=d'):Co d d':=h ▸ Co.refl d
theorem Ba (x:Int) (h1:0≤x) (h2:x < 256):IntKind.u8.wrap x=x:=by
 simp only[IntKind.wrap,IntKind.bits,IntKind.signed,fc,fb,if_false];have e:(2:Int) ^ 8=256:=by decide
 rw[e];omega
theorem HW {α:Type} (f:α→D) {l:List α} {k:Nat} (h:k < l.length):(l.take k).map f++[f l[k]]=(l.take (k + 1)).map f:=by
 rw[ep,dO h,eC]; rfl
theorem Xt (f:D→D) (t:Ty):(AC t).sub f=.agg [f (.val (.string t.name)),f (.sl false (t.args.map AC)),f (.val (.int .i64 t.pos))]:=by rw[C0]; rfl
attribute [go_sem] Qk HV undef Int.toNat_natCast Int.natCast_nonneg Gx Ss apart not_false_eq_true List.size_toArray aaa L3 GZ Gw Wc UA Xt List.map_append List.length_append List.take_length
section
variable {E:Ctx} {N:Nat} {st:St} {K:St→Prop} {Q:Exit→St→Prop}
theorem Ac {id:Nat} {l:List Oper} (n:Nat)
  (h:∀ g,(∀ i j,get st.σ ⟨g,i,j⟩=none)→SomeP (arun E (l.map (·.dst)) g n l st) fun r=>r.1=[]∧Q .normal r.2) (hd:EJ N l=true:=by kernel_rfl):AWp E N (.region id l.toArray false) Q st :=
 Xp n hd rfl h
theorem Am {id:Nat} {l:List Oper}
  (h:∀ g,(∀ i j,get st.σ ⟨g,i,j⟩=none)→∀ (ops:List Oper) (K:St→Prop),ops.map (·.dst)=l.map (·.dst)→(∀ {s},Q .normal s→K s)→AOps E N ops g K l st) (hd:EJ N l=true:=by kernel_rfl):AWp E N (.region id l.toArray false) Q st :=
 aat hd rfl fun g c ops K a b=>h g c ops K a fun {s}=>b s
theorem AF {id:Nat} {l:List Oper} (nq:Nat)
  (h:∀ g,(∀ i j,get st.σ ⟨g,i,j⟩=none)→∀ (ops:List Oper) (K:St→Prop),ops.map (·.dst)=l.map (·.dst)→(∀ {s},Q .normal s→K s)→QRun E ops g st.σ (AOps E N ops g K (l.drop nq)) (l.take nq) st) (hnq:decide (nq≤l.length)=true:=by kernel_rfl) (hok:Dg N l nq=true:=by kernel_rfl):AWp E N (.region id l.toArray true) Q st :=
 aau nq hnq hok rfl fun g c ops K a b=>h g c ops K a fun {s}=>b s
theorem AE {id:Nat} {l:List Oper}
  (h:∀ g,(∀ i j,get st.σ ⟨g,i,j⟩=none)→∀ (ops:List Oper) (K:St→Prop),ops.map (·.dst)=l.map (·.dst)→(∀ {s},Q .normal s→K s)→QRun E ops g st.σ K l st) (hok:Dg N l l.length=true:=by kernel_rfl):AWp E N (.region id l.toArray true) Q st :=
 YX hok rfl fun g c ops K a b=>h g c ops K a fun {s}=>b s
theorem Aa {x y:Code} (h:∀ K:St→Prop,(∀ {s},AWp E N y Q s→K s)→AWp E N x (F1 K Q) st):AWp E N (.seq x y) Q st :=
 W0 fun K a=>h K fun {s}=>a s
theorem Al {c:Operand} {x y:Code} (h:AWp E N x Q st) (hc:ev E st.env c=.val (.bool true):=by exact rfl):AWp E N (.cond c x y) Q st:=abY hc h
theorem Aj {c:Operand} {x y:Code} (h:AWp E N y Q st) (hc:ev E st.env c=.val (.bool false):=by exact rfl):AWp E N (.cond c x y) Q st:=abZ hc h
end
section
variable {E:Ctx} {N:Nat} {ops:List Oper} {ds:List (Option Tmp)} {g:Nat} {Q:St→Prop} {st:St} {σ0:Sto}
theorem Ak {o:Oper} {r:List Oper} {f:FuncId} {args:List D} {nw:Sto} {d:Nat} {x:D} (hds:ops.map (·.dst)=ds) (h:ACalls E f args [] g d x nw)
  (k:AOps E N ops g Q r { env:=(d,x) :: st.env,σ:=nw++st.σ }) (hw:Cv ds st.env o.guard=some true:=by exact rfl) (hd:o.dst=some d:=by exact rfl) (hc:CO o (ev E st.env)=some (f,args):=by exact rfl):AOps E N ops g Q (o :: r) st :=
 AA hds hw hd hc h (CoL.refl _) k
theorem Aw {o:Oper} {r:List Oper} {f:FuncId} {args:List D} {nw:Sto} {d:Nat} {x:D} (hds:ops.map (·.dst)=ds) (h:ACalls E f args [] g d x nw)
  (k:QRun E ops g σ0 Q r { env:=(d,x) :: st.env,σ:=nw++st.σ }) (hw:Cv ds st.env o.guard=some true:=by exact rfl) (hd:o.dst=some d:=by exact rfl) (hc:CO o (ev E st.env)=some (f,args):=by exact rfl) (hnw:nwOk g (some d) nw=true:=by exact rfl):QRun E ops g σ0 Q (o :: r) st :=
 AI hds hw hd hc h (CoL.refl _) hnw k
end
theorem Ag {E:Ctx} {st:St} {fn:Func} {g d:Nat} {r:D} {l:List ResultVar} (h:SomeP (resD E.P st l) fun ds=>Co (resV ds) r) (hl:fn.results=l.toArray:=by exact rfl):retQ E fn g d r [] .ret st:=aav hl h
theorem Ax {E:Ctx} {f:FuncId} {fn:Func} {c:Code} {d g:Nat} {args:List D} {σ σ' : Sto} {r:D} (N:Nat) (hcall:∀ vs w,(callFunc f vs).run E.P w=.ok (.enter f vs) w) (hf:E.P.funcs[f]?=some fn)
  (h:AWp E N c (retQ E fn g d r σ') ⟨Gi 0 args,σ⟩) (hb:fn.body=some c:=by exact rfl) (hN:fn.ntmps=N:=by exact rfl) (hargs:args.length≤N:=by simp):ACalls E f args σ g d r σ':=RX hcall hf hb hN hargs h
attribute [go_sem] List.nil_append List.cons_append decide_true decide_false Bool.not_true Bool.not_false Option.getD_some Option.getD_none Option.isSome_none Option.isSome_some List.map_nil List.length_nil List.take_zero List.length_singleton List.foldl_nil
theorem Vs.toVals {G:Gh} {w:World} {vs:Array Value} {l:List Value} (h:Vs G w vs (l.map .val)):vs=l.toArray:=by
 apply Array.ext_getElem?;intro i;obtain ⟨b,d⟩:=h;simp only[ei] at b;simp only[eA];by_cases a:i < l.length
 ·have c:vs[i]?=some vs[i]:=by simp[b,a]
  rw[c,dO a];have:=d i vs[i] (.val l[i]) c (by simp[a]);rw[V.of_val this]
 ·rw[fh (by omega),eS (by omega)]
theorem Co.sl {x x' : Bool} {rows rows' : List D} (hx:x'=true→x=true) (hl:rows.length=rows'.length) (h:∀ (i:Nat) r r',rows[i]?=some r→rows'[i]?=some r'→CoL r.cells r'.cells):Co (.sl x rows) (.sl x' rows'):=by
 intro G w v C;cases C with
 | nilsl =>
  have:rows'=[]:=ex hl.symm;subst this;exact .nilsl _
 | esl a =>
  have:rows'=[]:=ex hl.symm;subst this;exact .esl a _
 | sl X q s t u y z A =>
  have get:∀ (i:Nat) r',rows'[i]?=some r'→∃ r,rows[i]?=some r∧CoL r.cells r'.cells:=fun i r' c=>by
   have p:i < rows.length:=by rw[hl]; exact (dW.1 c).1
   exact ⟨rows[i],by simp[p],h i _ _ (by simp[p]) c⟩
  rename_i b F n E k;refine .sl (k:=k) X (q.trans hl) (fun e=>s (hx e)) t u (fun i r' c=>?_) (fun i r' j l c m=>?_) (fun i r' j l c m=>?_)
  ·obtain ⟨r,g,f⟩:=get i r' c;rw[← f.spec.1]; exact y i r g
  ·obtain ⟨r,g,f⟩:=get i r' c;obtain ⟨d,o,_⟩:=f.spec.2 j l m;exact z i r j d g o
  ·obtain ⟨r,g,f⟩:=get i r' c;obtain ⟨d,o,B⟩:=f.spec.2 j l m;exact B _ _ _ (A i r j d g o)
theorem Co.map {α:Type} {x x' : Bool} {f f' : α→D} (l:List α) (hx:x'=true→x=true) (h:∀ a∈l,CoL (f a).cells (f' a).cells):Co (.sl x (l.map f)) (.sl x' (l.map f')):=by
 refine Co.sl hx (by simp) fun i _ _ b d=>?_;rw[eK] at b d;cases c:l[i]? with
 | none=>rw[c] at b; cases b
 | some a =>
  rw[c] at b d;cases b; cases d;exact h a (ew c)
section
variable {E:Ctx} {N:Nat} {st:St} {Q:Exit→St→Prop}
theorem Pj {c:Code} (t:Nat) (d' : D) (h:SomeP (lk st.env t) fun d=>Co d d'∧AWp E N c Q { env:=(t,d') :: st.env,σ:=st.σ }):AWp E N c Q st:=by
 obtain ⟨d,f,g,i⟩:=h.elim;refine Sees.awp fun _ _ G _ _ a=>⟨G,⟨(t,d') :: st.env,st.σ⟩,⟨a.wf,fun u x b=>?_,a.objs,a.defers⟩,.refl _ _ _ _,i⟩
 simp only[lk] at b;split at b
 ·rename_i e;subst e;cases b;exact ⟨(a.env _ _ f).1,g _ _ _ (a.env _ _ f).2⟩
 ·exact a.env u x b
end
theorem Pk {α β:Type} (F:Nat→Nat→α→β) (l:List α) (k:Nat) (v:β) (hv:∀ a,l[k]?=some a→v=F (k + 1) k a) (hF:∀ i a,i≠k→F k i a=F (k + 1) i a) :
  (l.mapIdx (F k)).set k v=l.mapIdx (F (k + 1)):=by
 apply gx;intro i;rw[gl];simp only[List.length_mapIdx,io];split
 ·rename_i e;subst e;split
  ·rename_i b;simp[b,hv l[k] (by simp[b])]
  ·rename_i b;simp[fh (show l.length≤k by omega)]
 ·rename_i e;cases c:l[i]? with
  | none=>rfl
  | some a=>simp[hF i a (Ne.symm e)]
theorem aab {α β:Type} (f:Nat→α→β) (l:List α) (k:Nat) (h:k < l.length):(l.mapIdx f)[k]?=some (f k l[k]):=by simp[h]
attribute [go_sem] List.length_mapIdx
theorem ACalls.sees {E:Ctx} {f:FuncId} {args:List D} {σ σ' σ2:Sto} {g d:Nat} {r r2:D} (h:ACalls E f args σ g d r σ') (hs:Sees E ⟨[(0,r)],σ'⟩ fun st=>lk st.env 0=some r2∧∀ p∈σ2,get st.σ p.1=some p.2):ACalls E f args σ g d r2 σ2 where
 call:=h.call
 run w0 hA G w vs hw hvs ho hfr:=by
  refine (h.run w0 hA G w vs hw hvs ho hfr).mono ?_;rintro e i ⟨v,a,rfl,m,M,A,O⟩;have q:∀ {H:Gh} {x:Value} {y:D} (b:Nat),V H i x y→V { H with base:=b } i x y:=fun b h=>h.mono (fun _ h=>h) (fun _ _=>rfl) (fun _ _ h=>h);have I:∀ t x,lk [(0,r)] t=some x→t < (#[v]:Array Value).size∧V { a with base:=0 } i ((#[v]:Array Value).getD t undef) x:=by
   intro t x l;simp only[lk] at l;split at l
   ·rename_i e;subst e;cases l;exact ⟨by simp,by simpa using q 0 M⟩
   ·cases l
  have L : WF w0 { a with base:=0 } i:=⟨m.below,m.old,m.lt,m.nm⟩
  have N : Objs w0 { a with base:=0 } i (get σ'):=⟨fun n o k=>let ⟨u,h1,h2,h3⟩:=A.ob n o k; ⟨u,h1,h2.mono (fun _ _ h=>q 0 h) fun _ _=>rfl,h3⟩,A.ne⟩
  obtain ⟨s,C,j,c,J,K⟩:=hs w0 hA { a with base:=0 } i { tmps:=#[v],defers:=[] } ⟨L,I,N,.nil (dX _)⟩;have z : ∀ n o,get σ2 n=some o→get C.σ n=some o:=fun n o k=>K _ (AQ k);have Q:V { s with base:=a.base } i v r2:=q a.base (by simpa using (j.env 0 r2 J).2);have B:=j.objs.sub z;have P:Step no a i (get σ') { s with base:=a.base } i (get C.σ):=⟨c.size,c.heap,c.F,c.F',c.ρ,c.ρ',c.top,c.blk',c.dom,rfl⟩
  refine ⟨v,{ s with base:=a.base },rfl,⟨j.wf.below,j.wf.old,j.wf.lt,j.wf.nm⟩,Q,⟨fun n o k=>let ⟨u,h1,h2,h3⟩:=B.ob n o k; ⟨u,h1,h2.mono (fun _ _ h=>q _ h) fun _ _=>rfl,h3⟩,B.ne⟩,(O.trans (P.weaken fun _ _ h=>h.elim)).trans (Step.drop z)⟩
theorem Co.tup {cs cs' : List D} (h:CoL cs cs'):Co (.tup cs) (.tup cs'):=fun _ _ _ hv=>by
 cases hv with
 | tup h1 h2 =>
  refine .tup (h1.trans h.spec.1) fun i c d hc hd=>?_;obtain ⟨d0,hd0,hco⟩:=h.spec.2 i d hd;exact hco _ _ _ (h2 i c d0 hc hd0)
theorem Wd {E:Ctx} {f:FuncId} {l:List Value} {t:TypeId} {k g d:Nat} (hcall:∀ xs w,(callFunc f xs).run E.P w=.ok (.enter f xs) w)
  (h:∀ w0,E.A w0→∀ w,Below w0.heap.size w0 w→Calls E.P f l.toArray w fun e w'=>∃ v,e=.returned v∧Gr w w' none ∧
   (v=.slice none 0 0∨∃ cap cur,v=.slice (some ⟨w.heap.size,0,none⟩) 0 cap∧w'.heap[w.heap.size]?=some (.cells cur t (0,0))∧cap≤maxLen∧cur.size=cap * k)) :
  ACalls E f (l.map .val) [] g d (.own ⟨g,d,1⟩ 0) [(⟨g,d,1⟩,.arr t k [])] where
 call:=hcall
 run w0 hA G w vs hw hvs ho hfr:=by
  rw[Vs.toVals hvs];refine (h w0 hA w hw.below.toBelow).mono ?_;rintro e w' ⟨v,rfl,s,m⟩;have x:OV w0 (G.upd ⟨g,d,1⟩ v) w' v (.arr t k []):=by
   refine ⟨[],⟨by simp,?_⟩,fun _ _ h=>by simp at h⟩;rcases m with rfl | ⟨cap,cur,rfl,a,c,i⟩
   ·exact .inl ⟨rfl,rfl⟩
   ·exact .inr ⟨_,cap,cur,rfl,hw.below.size,a,dX _,c,i,by simp⟩
  have q:∀ b,blk v=some b→w.heap.size≤b∧b < w'.heap.size:=by
   intro b j;rcases m with rfl | ⟨cap,cur,rfl,a,c,i⟩
   ·simp[blk] at j
   ·simp only[blk,Option.some.injEq] at j;subst j;exact ⟨ec _,(fa.1 a).1⟩
  obtain ⟨y,o,p⟩:=Gf hw ho (hfr.2 1) hfr.1 s q x;have r:Kp.or (single ⟨g,d,1⟩ (.arr t k [])) (get [])=get [(⟨g,d,1⟩,.arr t k [])]:=by rw[← CI,← Bj]; rfl
  rw[r] at o p;refine ⟨v,_,rfl,y,?_,o,p.weaken fun _ _ u=>by subst u; exact ⟨rfl,rfl⟩⟩;have n:(G.upd ⟨g,d,1⟩ v).ρ ⟨g,d,1⟩=some v:=by simp[Gh.upd]
  rcases m with rfl | ⟨cap,cur,rfl,a,c,i⟩
  ·exact .own n
  ·exact .own n
theorem Co.one {x:Bool} {r r' : D} (h:CoL r.cells r'.cells):Co (.sl x [r]) (.sl false [r']) :=
 Co.sl (fun e=>by cases e) rfl (fun i _ _ ha ha'=>by
  cases i with
  | zero=>cases ha; cases ha'; exact h
  | succ i=>cases ha)
theorem Du {α:Type} (k:Nat) (f:α→D) (l:List α) (h:∀ a,(f a).cells.length=k∧(f a).cells.all D.one=true):BO k (l.map f):=fun _ hr=>by
 obtain ⟨a,_,rfl⟩:=eh.1 hr;exact h a
def G0 (w:World):Gh:=⟨fun b=>b < w.heap.size,fun _=>none,1,0⟩
theorem wf0 (w:World):WF w (G0 w) w where
 below:=Bel.refl _ _
 old:=fun _ h=>h
 lt:=fun _ h=>h
 nm:=fun _ _ h=>by cases h
theorem objs0 (w:World):Objs w (G0 w) w (get []) where
 ob:=fun n o h=>by cases h
 ne:=fun n _ o _ _ _ _ h=>by cases h
def Seg (w:World) (cs:List Value) (off:Nat) (ds:List D):Prop:=∀ (i:Nat) d,ds[i]?=some d→∃ c,cs[off + i]?=some c∧V (G0 w) w c d
theorem Seg.nil (w:World) (cs:List Value) (off:Nat):Seg w cs off []:=fun _ _ h=>by simp at h
theorem Seg.app {w:World} {cs:List Value} {off m:Nat} {ds ds' : List D} (h:Seg w cs off ds) (h' : Seg w cs m ds') (hm:m=off + ds.length):Seg w cs off (ds++ds'):=fun i d hd=>by
 subst hm;by_cases hi:i < ds.length
 ·rw[eF hi] at hd;exact h i d hd
 ·rw[eJ (by omega)] at hd;obtain ⟨c,hc,hv⟩:=h' _ _ hd;exact ⟨c,by rw[← hc]; congr 1; omega,hv⟩
variable {H:Type} {enc:TypeId × Value→H} {P:Program} {w:World}
def Opens {α:Type} (enc:TypeId × Value→H) (P:Program) (w:World) (t:TypeId) (c:α→List D) (ok:α→Prop) (n:Nat):Prop :=
 ∀ cs x,DataW.trod enc P w 0 (fun _=>true) true n t cs=some x→∃ a,ok a∧cs.length=(c a).length∧Seg w cs 0 (c a)
theorem MW {v:Value} {d:D} (h:V (G0 w) w v d):Seg w [v] 0 [d]:=fun i _ hd=>by
 cases i with
 | zero=>cases hd; exact ⟨v,rfl,h⟩
 | succ i=>simp at hd
theorem Xu {t:TypeId} (ht:P.underlying t=some .string) (n:Nat):Opens enc P w t (fun s:Str=>[.val (.string s)]) (fun s=>s.size≤9223372036854775807) n:=by
 intro b x h;obtain ⟨s,rfl,_,a⟩:=DataW.trod_string ht h;exact ⟨s,by unfold maxLen at a; omega,rfl,MW (.val _)⟩
theorem Xv {t:TypeId} (ht:P.underlying t=some (.int .i64)) (n:Nat):Opens enc P w t (fun i:Int=>[.val (.int .i64 i)]) (fun i=>-9223372036854775808≤i∧i≤9223372036854775807) n:=by
 intro b x h;obtain ⟨m,rfl,_,a⟩:=DataW.trod_int ht h;simp[Lit.wf,IntKind.min,IntKind.max,IntKind.signed,IntKind.bits] at a;exact ⟨m,⟨by omega,by omega⟩,rfl,MW (.val _)⟩
theorem Nu {α:Type} {p:Nat→α→Prop}:∀ n:Nat,(∀ i,i < n→∃ a,p i a)→∃ l:List α,l.length=n∧∀ i (a:α),l[i]?=some a→p i a
 | 0,_=>⟨[],rfl,fun i a h=>by simp at h⟩
 | n + 1,h=>by
  obtain ⟨l,hl,hp⟩:=Nu n fun i hi=>h i (by omega);obtain ⟨a,ha⟩:=h n (by omega);refine ⟨l++[a],by simp[hl],fun i b hb=>?_⟩;by_cases hi:i < l.length
  ·rw[eF hi] at hb;exact hp i b hb
  ·rw[eJ (by omega)] at hb;have:i - l.length=0:=by
    have:=(dW.1 hb).1;simp at this;omega
   rw[this] at hb;cases hb;have:i=n:=by omega
   subst this;exact ha
theorem Nv {base:Nat} {a:Addr} {n:Nat} {l:List Value} (h:w.cells? base a n=some l):l.length=n∧∀ j,j < n→w.cell? (a.add j)=l[j]?:=by
 unfold World.cells? at h;split at h
 ·refine ⟨by simpa using Lib.mapM_length h,fun j e=>?_⟩;obtain ⟨b,c,d⟩:=Lib.mapM_at h j j (by simp[e]);rw[d,c]
 ·cases h
theorem We {a:Addr} {v:Value} (h:w.cell? a=some v):a.spot=none∧a.block < w.heap.size:=by
 unfold World.cell? at h;split at h
 ·rename_i c t f e;split at h
  ·cases h
  ·rename_i b;exact ⟨by cases d:a.spot with | none=>rfl | some _=>rw[d] at b; simp at b,(fa.1 e).1⟩
 ·cases h
theorem Y0 {α:Type} {t e:TypeId} {k:Nat} {f:α→D} {ok:α→Prop} {n:Nat} (ht:P.underlying t=some (.slice e)) (hk:P.cellsOf e=k) (hk0:0 < k) (hlen:∀ a,(f a).cells.length=k)
  (he:Opens enc P w e (fun a=>(f a).cells) ok n) :
  Opens enc P w t (fun l:List α=>[.sl false (l.map f)]) (fun l=>l.length≤9223372036854775807∧∀ a∈l,ok a) (n + 1):=by
 intro cs x h;rcases DataW.trod_slice ht h with ⟨rfl,rfl⟩ | ⟨a,len,M,a3,a8,m,hm,rfl,rfl,_,X,Q,a4,A,K,_⟩
 ·exact ⟨[],⟨by simp,by simp⟩,rfl,MW (.nilsl _)⟩
 ·obtain rfl:n=m:=by omega
  rw[hk] at A K;have a1:∀ i,i < len→∃ b,ok b∧∀ (j:Nat) d,(f b).cells[j]?=some d→∃ c,w.cell? ((a.add (i * k)).add j)=some c∧V (G0 w) w c d:=by
   intro i B;have g:=A i B;rw[dO (by omega)] at g;obtain ⟨l,T,o⟩:=fj.1 g;obtain ⟨W,C⟩:=Nv T;obtain ⟨b,s,a5,a0⟩:=he l _ o;refine ⟨b,s,fun j d o=>?_⟩;obtain ⟨c,p,F⟩:=a0 j d o;have S:j < k:=by rw[← hlen b]; exact (dW.1 o).1
   exact ⟨c,by rw[C j S]; simpa using p,F⟩
  obtain ⟨l,J,E⟩:=Nu len a1;have Y:l.length≤9223372036854775807∧∀ b∈l,ok b:=by
   refine ⟨by unfold maxLen at Q; omega,fun b s=>?_⟩;obtain ⟨i,B,rfl⟩:=eT.1 s;exact (E i _ (by simp[B])).1
  refine ⟨l,Y,rfl,MW ?_⟩;by_cases O:M=0
  ·obtain rfl:len=0:=by omega
   subst O;have:l=[]:=ex J;subst this;exact .esl a false
  ·
   have first:∃ v,w.cell? a=some v:=by
    have R:∃ q,(w.cells? 0 (a.add (0 * k)) k)=some q:=by
     by_cases U:0 < len
     ·have g:=A 0 U;rw[dO (by omega)] at g;obtain ⟨q,u,_⟩:=fj.1 g;exact ⟨q,u⟩
     ·obtain ⟨a7,Z⟩:=K rfl;have g:=Z 0 (by omega);rw[dO (by omega)] at g;obtain ⟨q,u,_⟩:=fj.1 g;have:len + 0=0:=by omega
      rw[this] at u;exact ⟨q,u⟩
    obtain ⟨q,u⟩:=R;obtain ⟨W,C⟩:=Nv u;have h0:=C 0 hk0;rw[Nat.zero_mul,show (a.add 0).add 0=a from rfl,dO (by omega)] at h0;exact ⟨_,h0⟩
   obtain ⟨v,F⟩:=first
   obtain ⟨L,s⟩:=We F;obtain ⟨b,H,a9⟩:=a;simp only at L s;subst L;have I:∀ i j:Nat,((⟨b,H,none⟩:Addr).add (i * k)).add j=⟨b,H + (i * k + j),none⟩:=fun i j=>by
    rw[Addr.add_lit,Addr.add_lit,fU]
   refine .sl (k:=k) (fun i j=>(w.cell? ⟨b,H + (i * k + j),none⟩).getD .nilFunc) (by simp[J]) (fun h=>by cases h) X s (fun i r z=>?_) (fun i r j d z o=>?_) (fun i r j d z o=>?_)
   ·obtain ⟨y,_,rfl⟩:=ee.1 (by simpa using z);exact hlen y
   ·obtain ⟨y,G,rfl⟩:=ee.1 (by simpa using z);obtain ⟨c,p,_⟩:=(E i y G).2 j d o;rw[I] at p;simp[p]
   ·obtain ⟨y,G,rfl⟩:=ee.1 (by simpa using z);obtain ⟨c,p,N⟩:=(E i y G).2 j d o;rw[I] at p;simpa [p] using N
theorem Wg {α:Type} {t:TypeId} {fs:Array Field} {cs:List Value} {n:Nat} {x:DataW H × List MemPlace} (ht:P.underlying t=some (.struct fs)) (h:DataW.trod enc P w 0 (fun _=>true) true (n + 1) t cs=some x)
  {c:α→List D} {ok:α→Prop} (i:Nat) {f:Field} (hf:fs[i]?=some f) (ho:Opens enc P w f.type c ok n):∃ a,ok a∧Seg w cs f.offset (c a):=by
 obtain ⟨r,m,u,_,_,s,o⟩:=DataW.trod_struct ht h;obtain rfl:n=m:=by omega
 have p:i < r.length:=by
  have:=(fa.1 hf).1;omega
 have e:=o i f hf;rw[dO p] at e;obtain ⟨a,k,_,q⟩:=ho _ _ e;refine ⟨a,k,fun j d l=>?_⟩;obtain ⟨v,b,g⟩:=q j d l;refine ⟨v,?_,g⟩;rw[eN,eb] at b;split at b
 ·rwa [eR] at b
 ·cases b
theorem Wh {t:TypeId} {fs:Array Field} {cs:List Value} {n:Nat} {x:DataW H × List MemPlace} (ht:P.underlying t=some (.struct fs)) (h:DataW.trod enc P w 0 (fun _=>true) true (n + 1) t cs=some x):cs.length=P.cellsOf t:=by
 obtain ⟨d,m,c,_,a,_,b⟩:=DataW.trod_struct ht h;exact a
theorem Opens.zero {α:Type} {t:TypeId} {c:α→List D} {ok:α→Prop}:Opens enc P w t c ok 0:=fun _ _ h=>by simp[DataW.trod] at h
theorem ES {α:Type} {t e:TypeId} {k:Nat} {f:α→D} {ok:α→Prop} {n:Nat} (ht:P.underlying t=some (.slice e)) (hk:P.cellsOf e=k) (hk0:0 < k) (hlen:∀ a,(f a).cells.length=k)
  (he:∀ m,m < n→Opens enc P w e (fun a=>(f a).cells) ok m):Opens enc P w t (fun l:List α=>[.sl false (l.map f)]) (fun l=>l.length≤9223372036854775807∧∀ a∈l,ok a) n:=by
 cases n with
 | zero=>exact Opens.zero
 | succ n=>exact Y0 ht hk hk0 hlen (he n (gj n))
def isSt (P:Program) (t:TypeId):Bool:=match P.underlying t with
 | some (.struct _)=>true
 | _=>false
def fieldAt (P:Program) (t:TypeId) (i:Nat):Option (TypeId × Nat):=match P.underlying t with
 | some (.struct fs)=>(fs[i]?).map fun f=>(f.type,f.offset)
 | _=>none
theorem Bn {α:Type} {t ft:TypeId} {off:Nat} {cs:List Value} {n:Nat} {x:DataW H × List MemPlace} {c:α→List D} {ok:α→Prop} (i:Nat) (hf:fieldAt P t i=some (ft,off))
  (h:DataW.trod enc P w 0 (fun _=>true) true (n + 1) t cs=some x) (ho:Opens enc P w ft c ok n):∃ a,ok a∧Seg w cs off (c a):=by
 unfold fieldAt at hf;split at hf
 ·rename_i g e;obtain ⟨f,b,d⟩:=ee.1 hf;cases d;exact Wg e h i b ho
 ·cases hf
theorem F8 {t:TypeId} {cs:List Value} {n:Nat} {x:DataW H × List MemPlace} (hs:isSt P t=true) (h:DataW.trod enc P w 0 (fun _=>true) true (n + 1) t cs=some x):cs.length=P.cellsOf t:=by
 unfold isSt at hs;split at hs
 ·rename_i b a;exact Wh a h
 ·cases hs
theorem Y1 {α:Type} {t:TypeId} {c:α→List D} {ok:α→Prop} {b0:Nat} {v:Value} {d:DataW H} {ps:List MemPlace} (hs:isSt P t=true) (ho:∀ n,Opens enc P w t c ok n)
  (hval:Value.okWide P w .any b0 t v) (h:DataW.Trod enc P w 0 (fun _=>true) true t v d ps):∃ a,ok a∧V (G0 w) w v (.agg (c a)):=by
 obtain ⟨n,m⟩:=h;obtain ⟨b,o⟩:∃ b,P.underlying t=some (.struct b):=by
  unfold isSt at hs;split at hs
  ·rename_i b h;exact ⟨b,h⟩
  ·cases hs
 unfold Value.okWide at hval;rw[o] at hval;obtain ⟨e,rfl,_,_⟩:=hval;obtain ⟨a,g,k,hs⟩:=ho n _ _ m;have l : e.size=(c a).length:=by simpa [Value.cells] using k
 refine ⟨a,g,.agg l fun i _ d p j=>?_⟩;obtain ⟨y,q,f⟩:=hs i d j;have:e[i]?=some y:=by simpa [Value.cells] using q
 rw[p] at this;cases this;exact f
theorem Xw {E:Ctx} {f:FuncId} {l:List D} {W:World} (h:∀ g d,ACalls E f l [] g d (dB true) []) (hA:E.A W) {vs:Array Value} (hv:Vs (G0 W) W vs l) :
  Calls E.P f vs W fun e W'=>e=.returned (.bool true)∧Below W.heap.size W W':=by
 refine ((h 0 0).run W hA (G0 W) W vs (wf0 W) hv (objs0 W) ⟨Nat.zero_lt_one,fun _=>rfl⟩).mono ?_;rintro e i ⟨v,c,rfl,b,a,_,_⟩;rw[V.of_val a];exact ⟨rfl,b.below.toBelow⟩
variable {H:Type} {enc:TypeId × Value→H} {P:Program} {W W' : World}
theorem Lt (hl:laidOutB P=true) (hb:Below W.heap.size W W'):∀ {ts:List TypeId} {vs:List Value} {ds:List (DataW H)} {ps:List MemPlace},
  (∀ t∈ts,P.readableRec t=true∧t < P.types.size)→DataW.TrodAll enc P W 0 (fun _=>true) true ts vs ds ps→(∀ x∈ps,x.block < W.heap.size)→DataW.TrodAll enc P W' 0 (fun b=>decide (b < W.heap.size)) true ts vs ds ps
 | [],[],[],_,_,h,_=>h
 | t :: ts,v :: vs,d :: ds,ps,ht,h,hlt=>by
  obtain ⟨p,q,h1,h2,rfl⟩:=h;have ht1:=ht t dY;exact ⟨p,q,Below.trod hl ht1.1 ht1.2 h1 hb (fun x hx=>hlt x (eI _ hx)),
   Lt hl hb (fun u hu=>ht u (ea _ hu)) h2 (fun x hx=>hlt x (eP _ hx)),rfl⟩
 | [],[],_ :: _,_,_,h,_=>absurd h (by intro h; cases h)
 | [],_ :: _,_,_,_,h,_=>absurd h (by intro h; cases h)
 | _ :: _,[],_,_,_,h,_=>absurd h (by intro h; cases h)
 | _ :: _,_ :: _,[],_,_,h,_=>absurd h (by intro h; cases h)
def abv (P:Program) (ts:List TypeId):Bool:=ts.all fun t=>P.readableRec t && decide (t < P.types.size)
theorem lifted {E:Ctx} {C:Checked} {os:Os} {f:FuncId} {fn:Func} {s:ChangeSpec} {apart fresh handsOn:Bool} {laid:List (String × DataW Unit)} {tb:TypeId} (hE:E.P=C.prog)
  (hA:∀ W,laidMetH C.prog laid W→E.A W) (own:ownKnob C.prog.godebug=none) (started:os.Started) (noInit:C.prog.inits.idxOf? f=none) (hfn:C.prog.funcs[f]?=some fn)
  (witness:∃ (w:World) (tape:Tape) (i:Input),w.os=os∧(w.forCall tape i).Shaped C.prog∧i.vars=[]∧Input.okWide C.prog (w.forCall tape i) .any w.heap.size f i ∧
   ((s.pre enc C.prog fn [] apart (w.forCall tape i).memory i.args∧laidMetH C.prog laid (w.forCall tape i).memory)∧sizedMet enc C.prog fn (OpenSpec.ofChange s) apart (w.forCall tape i).memory i.args)∧({}:Assume).holds C.prog (lone (Frame.enter C.prog f i.args .normal) [] (w.forCall tape i)))
  (hvars:s.vars=[]) (hres:fn.resultTypes=#[tb]) (htb:C.prog.underlying tb=some .bool) (hlo:laidOutB C.prog=true) (hrd:abv C.prog fn.params.toList=true)
  (hopen:∀ (W:World) (base:Nat) (args:Array Value) (ds:List (DataW H)) (p:List MemPlace),(∀ (j:Nat) t v,fn.params[j]?=some t→args[j]?=some v→Value.okWide C.prog W .any base t v) →
   DataW.TrodAll enc C.prog W 0 (fun _=>true) true fn.params.toList args.toList ds p →
   (∃ l,Vs (G0 W) W args l∧∀ g d,ACalls E f l [] g d (dB true) [])∧s.fn H ds={ results:=[.lit (.bool true)],args:=ds }) :
  ReturnsInHanded {} C os f .any (fun w args=>(s.pre enc C.prog fn [] apart w args∧laidMetH C.prog laid w)∧sizedMet enc C.prog fn (OpenSpec.ofChange s) apart w args)
   (s.post enc C.prog fn apart fresh handsOn false):=by
 refine returnsInHanded_of_change_and (C:=C) (X:=fun w _=>laidMetH C.prog laid w) (fun _ _ _ B h=>h.of_heap B) own started noInit hfn witness ?_;intro W base args ds c L G m _ _ y _;have n:=m;obtain ⟨p,q,k,a,rfl,M,N⟩:=m;rw[hvars] at a;obtain ⟨rfl,rfl⟩:c=[]∧q=[]:=by
  cases c with
  | nil=>exact ⟨rfl,a⟩
  | cons g r=>exact absurd a (by intro h; cases h)
 obtain ⟨⟨l,I,D⟩,b⟩:=hopen W base args ds p G k;have u:=Xw D (hA W y) I;rw[hE] at u;refine u.mono fun e K ⟨z,o⟩=>⟨_,z,ds,[],_,[],p,[],n,?_,?_,?_,o.frame _,fun h=>by cases h⟩
 ·rw[fe,b,hres];exact ⟨[],[],shut_bool htb true,rfl,rfl⟩
 ·rw[fe,b];refine Lt hlo o (fun t F=>?_) k (fun x J=>by simpa using n.lt x (eI _ J));have:=eL.1 hrd t F;simpa using this
 ·rw[fe,b,hvars]
  rfl
theorem Vs.cons {G:Gh} {w:World} {v:Value} {vs:Array Value} {d:D} {ds:List D} (h:V G w v d) (hs:Vs G w vs ds):Vs G w (#[v]++vs) (d :: ds) :=
 Vs.append (a:=#[v]) (x:=[d]) ⟨rfl,fun i _ _ hc hd=>by
  cases i with
  | zero=>cases hc; cases hd; exact h
  | succ i=>simp at hd⟩ hs
theorem Vs.nil (G:Gh) (w:World):Vs G w #[] []:=⟨rfl,fun _ _ _ _ hd=>by simp at hd⟩
theorem Vs.one1 {G:Gh} {w:World} {v:Value} {d:D} (h:V G w v d):Vs G w #[v] [d]:=by simpa using Vs.cons h (Vs.nil G w)
theorem Vs.two {G:Gh} {w:World} {v v' : Value} {d d' : D} (h:V G w v d) (h' : V G w v' d'):Vs G w #[v,v'] [d,d']:=by simpa using Vs.cons h (Vs.one1 h')
end Go.Ab
namespace Go.Ab
open Go
def acX:Value:=.agg #[.string ByteArray.empty,.slice none 0 0,.int .i64 0]
def zSig:Value:=.agg #[.string ByteArray.empty,.slice none 0 0,.slice none 0 0,.string ByteArray.empty,.slice none 0 0,.int .i64 0,.int .i64 0]
def Leads (E:Ctx) (o:Oper) (e:Operand→D) (f:FuncId) (args:List D):Prop :=
 ∀ G w (ρ:Operand→Value),(∀ x∈o.op.operands,V G w (ρ x) (e x))→∃ vs,(execOp ρ o).run E.P w=(callFunc f vs).run E.P w∧Vs G w vs args
def Recv (P:Program) (t:TypeId) (name:String) (d:D) (f:FuncId) (d' : D):Prop :=
 ∀ G w v,V G w v d→∃ v',(method (P.types.size + Made.depth) t v name).run P w=.ok (f,v') w∧V G w v' d'
def acT (E:Ctx) (f:FuncId) (args:List D) (σ:Sto) (g d:Nat) (r:D) (σ' : Sto):Prop :=
 ∀ w0,E.A w0→∀ G w (vs:Array Value),WF w0 G w→Vs G w vs args→Objs w0 G w (get σ)→(g < G.top∧∀ j,G.ρ ⟨g,d,j⟩=none) →
  ∃ v w' G',(callFunc f vs).run E.P w=.ok (.value v) w'∧WF w0 G' w'∧V G' w' v r∧Objs w0 G' w' (get σ')∧Step (rsv g (some d)) G w (get σ) G' w' (get σ')
section
variable {E:Ctx} {g:Nat} {o:Oper} {e:Operand→D}
theorem Vs.co {G:Gh} {w:World} {vs:Array Value} {args args' : List D} (h:Vs G w vs args) (hco:CoL args args'):Vs G w vs args' :=
 let ⟨hcl,hcs⟩:=hco.spec
 ⟨h.1.trans hcl,fun i c d' hx hd'=>let ⟨d0,k1,k2⟩:=hcs i d' hd'; k2 G w c (h.2 i c d0 hx k1)⟩
end
section
variable {E:Ctx} {N:Nat} {st:St} {ops:List Oper} {ds:List (Option Tmp)} {g:Nat} {Q:St→Prop}
end
section
variable {E:Ctx} {g d:Nat} {f:FuncId} {args:List D}
end
section
variable {E:Ctx} {N:Nat} {st:St} {ops:List Oper} {ds:List (Option Tmp)} {g:Nat} {Q:St→Prop}
end
section
variable {E:Ctx} {g:Nat} {o:Oper} {e:Operand→D}
theorem Recv.same {P:Program} {t:TypeId} {name:String} {f:FuncId} (h:∀ v w,(method (P.types.size + Made.depth) t v name).run P w=.ok (f,v) w) (d:D):Recv P t name d f d :=
 fun _ w v hv=>⟨v,h v w,hv⟩
end
section
variable {E:Ctx} {g:Nat} {st:St} {ops:List Oper} {ds:List (Option Tmp)} {σ0:Sto} {K:St→Prop}
end
section
variable {E:Ctx} {g d:Nat} {f:FuncId}
end
section
variable {E:Ctx} {N:Nat} {st:St} {ops:List Oper} {ds:List (Option Tmp)} {g:Nat} {Q:St→Prop}
end
theorem HC {E:Ctx} {st:St} {fn:Func} {g d:Nat} {r:D} {σ' : Sto} {l:List ResultVar} (hl:fn.results=l.toArray) (hσ:∀ p∈σ',get st.σ p.1=some p.2) (h:SomeP (resD E.P st l) fun ds=>Co (resV ds) r):retQ E fn g d r σ' .ret st:=by
 obtain ⟨ds,a,b⟩:=h.elim;exact Pd hl a b hσ
structure IC (E:Ctx) (f:FuncId) (args:List D) (Pre Post:Sto→Prop) (r:D):Prop where
 call:∀ xs w,(callFunc f xs).run E.P w=.ok (.enter f xs) w
 run:∀ (g d:Nat) w0,E.A w0→∀ G w (vs:Array Value) τ,Pre τ→WF w0 G w→Vs G w vs args→Objs w0 G w (get τ)→(g < G.top∧∀ j,G.ρ ⟨g,d,j⟩=none) →
  Calls E.P f vs w fun e w'=>∃ v G' τ',e=.returned v∧Post τ'∧WF w0 G' w'∧V G' w' v r∧Objs w0 G' w' (get τ')∧Step (rsv g (some d)) G w (get τ) G' w' (get τ')
def YC (E:Ctx) (n:Nm) (x:D) (Pre Post:Sto→Prop):Prop :=
 ∀ w0,E.A w0→∀ G w τ l v,Pre τ→WF w0 G w→Objs w0 G w (get τ)→V G w v x→G.ρ n=some (.pointer (some ⟨l,0,none⟩))→∀ r,
  ∃ fn tmps assign body,(Instr.yield l #[v]).run E.P w=.ok (.round l fn tmps assign body) w ∧
   RoundIn (Fr r) 0 E.P l fn tmps assign body w fun e w'=>e=.returned (.bool true)∧∃ G' τ',Post τ'∧WF w0 G' w'∧Objs w0 G' w' (get τ')∧Step no G w (get τ) G' w' (get τ')
def TOpP (E:Ctx) (g:Nat) (o:Oper) (e:Operand→D) (κ:Kp) (v:D) (own:Sto) (Post:Sto→Prop):Prop :=
 ∀ w0,E.A w0→∀ G w (a:Act),WF w0 G w→(∀ x∈o.op.operands,V G w (a.eval x) (e x))→Objs w0 G w κ→(∀ d,o.dst=some d→g < G.top∧∀ j,G.ρ ⟨g,d,j⟩=none) →
  ∀ (K:Act→World→Prop) (Q' : Exit→Act→World→Prop),
   (∀ τ' G' w' x,Post τ'→(∀ p∈own,get τ' p.1=none)→WF w0 G' w'→V G' w' x v→Objs w0 G' w' (get (own++τ'))→Step (rsv g o.dst) G w κ G' w' (get (own++τ'))→K (a.put o.dst x) w')→∀ r,o.wpIn (Fr r) 0 E.P a w K Q'
theorem F9 {own τ:Sto} (h:∀ p∈own,get τ p.1=none) (n:Nm) (o:Ob) (hn:get τ n=some o):get (own++τ) n=some o:=by
 rw[Bj];simp only[Kp.or];have:get own n=none:=by
  cases a:get own n with
  | none=>rfl
  | some x =>
   have:=h _ (AQ a);rw[hn] at this; cases this
 rw[this,hn]
 rfl
theorem aaw {own τ:Sto} (h:∀ p∈own,get τ p.1=none):Kp.or (get τ) (get own)=get (own++τ):=by
 rw[Bj]
 funext n
 simp only[Kp.or];cases a:get own n with
 | none=>cases get τ n <;> rfl
 | some x =>
  have:=h _ (AQ a);rw[this]
  rfl
theorem HX {w0:World} {R:Nm→Prop} {G G' : Gh} {w w' : World} {own τ τ' : Sto} (hw:WF w0 G w) (ho:Objs w0 G w (get (own++τ))) (hown:∀ p∈own,get τ p.1=none)
  (hs:Step R G w (get τ) G' w' (get τ')) (ho' : Objs w0 G' w' (get τ')):(∀ p∈own,get τ' p.1=none)∧Objs w0 G' w' (get (own++τ'))∧Step R G w (get (own++τ)) G' w' (get (own++τ')):=by
 have f:∀ n o,get own n=some o→get (own++τ) n=some o∧get τ n=none:=fun n o a=>by
  refine ⟨?_,hown _ (AQ a)⟩;rw[Bj];simp[Kp.or,a]
 have d : ∀ p∈own,get τ' p.1=none:=fun p e=>by
  cases i:get τ' p.1 with
  | none=>rfl
  | some o =>
   exfalso;have g:get own p.1≠none:=fun h=>ID.1 h (List.mem_map_of_mem e);obtain ⟨l,j⟩:=Option.ne_none_iff_exists'.1 g;obtain ⟨v,k,_⟩:=ho.ob p.1 l (f _ _ j).1;rcases hs.dom p.1 (by rw[i]; simp) with h | h
   ·exact h (hown p e)
   ·rw[k] at h; cases h
 obtain ⟨b,c⟩:=frame (κs:=get τ) (τ:=get own) hw ho (fun n o a=>F9 hown n o a) f hs ho';rw[aaw d] at b c;exact ⟨d,b,c⟩
section
variable {E:Ctx} {g:Nat} {o:Oper} {e:Operand→D}
theorem Xx {own τ:Sto} {f:FuncId} {args args' : List D} {Pre Post:Sto→Prop} {d:Nat} {r:D} (hc:CO o e=some (f,args)) (hco:CoL args args') (hd:o.dst=some d) (h:IC E f args' Pre Post r) (hpre:Pre τ) (hown:∀ p∈own,get τ p.1=none) :
  TOpP E g o e (get (own++τ)) r own Post:=by
 intro M q G w a i t c u K O s;obtain ⟨J,z,F⟩:=SN hc t h.call;have H:=Vs.co F hco;have A:=h.run g d M q G w J τ hpre i H (c.sub fun n o b=>F9 hown n o b) (u d hd);refine Sx z (Calls.mono A ?_);rintro P L ⟨v,j,N,rfl,y,I,C,x,B⟩;obtain ⟨k,l,m⟩:=HX i c hown B x;exact s N j L v y k I C l (m.weaken fun n _ b=>by rw[hd]; exact b)
theorem Y3 {P:Program} {a:Act} {w w' : World} {K:Act→World→Prop} {Q:Exit→Act→World→Prop} {l:Nat} {fn:FuncId} {tmps:Array Value} {assign body:Code} {r:Option Nat} {o:Oper}
  (h:(execOp a.eval o).run P w=.ok (.round l fn tmps assign body) w') (hK:RoundIn (Fr r) 0 P l fn tmps assign body w' fun
   | .returned v,w''=>K (a.put o.dst v) w''
   | .panicked chain,w''=>Q (.panic chain) a w''
   | .outgrown,_=>LetsOut Q):o.wpIn (Fr r) 0 P a w K Q:=by
 refine ⟨fun f _=>Fi r f,?_⟩;rw[Oper.semAt_eq _ _ _ (LJ (Kx h (fun _ e=>by cases e))),h];exact ⟨Kw r 0,hK⟩
theorem Xy {own τ:Sto} {c:Call} {fo xo:Operand} {n:Nm} {x:D} {Pre Post:Sto→Prop} (hop:o.op=.call c) (hc:c.callee=.value fo) (ha:c.args=#[xo]) (hf:e fo=.yld n) (hco:Co (e xo) x) (h:YC E n x Pre Post) (hpre:Pre τ) (hown:∀ p∈own,get τ p.1=none) :
  TOpP E g o e (get (own++τ)) (.val (.bool true)) own Post:=by
 intro R z G w a j f i V K T A r;have d:=f fo (by simp[hop,Op.operands,Call.operands,hc]);rw[hf] at d;have L:=hco G w _ (f xo (by simp[hop,Op.operands,Call.operands,hc,ha]));generalize N:a.eval fo=u at d;cases d with
 | yld b =>
  rename_i l;obtain ⟨s,O,m,q,M,B⟩:=h R z G w τ l _ hpre j (i.sub fun n o b=>F9 hown n o b) L b r;have H:(execOp a.eval o).run E.P w=.ok (.round l s O m q) w:=by
   simp[execOp,hop,resolve,hc,ha,N,Deferred.ofValue,invoke,M]
  refine Y3 H (B.mono ?_);rintro U Q ⟨rfl,k,S,F,J,C,I⟩;obtain ⟨t,v,y⟩:=HX j i hown I C;exact A S k Q (.bool true) F t J (.val _) v (y.weaken fun _ _ b=>b.elim)
end
section
variable {E:Ctx} {N:Nat} {ops:List Oper} {g:Nat} {Q:St→Prop} {st:St} {o:Oper} {rest:List Oper}
theorem Vm {v:D} {own τ:Sto} {Post:Sto→Prop} (hw:Dt ops st.env o=some true) (hσ:st.σ=own++τ) (hq:TOpP E g o (ev E st.env) (get (own++τ)) v own Post)
  (h:∀ τ',Post τ'→(∀ p∈own,get τ' p.1=none)→AOps E N ops g Q rest (st.env' o.dst v (own++τ'))):AOps E N ops g Q (o :: rest) st:=by
 intro u k G w a s e l c i A I r;simp only[wpListIn];rw[if_pos (FU e hw)];refine hq u k G w a e.wf (fun x _=>e.ev k x) (hσ ▸ e.objs) (fun d b=>⟨l,(i o (by simp) d b).2⟩) _ _ (fun τ' y V x O M S R L f=>?_) r;rw[← hσ] at f;have P:=e.put' (v:=v) (dst:=o.dst) f rfl S L R (fun d b=>by rw[s]; exact (i o dY d b).1);have T : (st.env' o.dst v (own++τ')).σ=own++τ':=by cases o.dst <;> rfl
 have t : (rest.filterMap (·.dst)).Nodup∧∀ d,o.dst=some d→d∉rest.filterMap (·.dst):=by
  cases b:o.dst with
  | none=>simp only[fR,b] at c; exact ⟨c,fun d h=>by cases h⟩
  | some d=>simp only[fR,b,fA] at c; exact ⟨c.2,fun _ h=>by cases h; exact c.1⟩
 refine h τ' O M u k y V _ (by rw[EB,s]) P (eV l f.top) t.1 (fun n m d b=>⟨(i n (by simp[m]) d b).1,fun j=>f.fresh (by exact l) ((i n (by simp[m]) d b).2 j) fun ⟨_,J⟩=>?_⟩) A (fun z U B W C F q H=>I z U B W C F ?_ H) r
 ·exact t.2 d J (fJ.2 ⟨n,m,b⟩)
 ·rw[T] at q;exact (f.weaken fun _ _ K=>K.1).trans q
variable {ds:List (Option Tmp)}
theorem EX {f:FuncId} {args args' : List D} {own τ:Sto} {Pre Post:Sto→Prop} {d:Nat} {x:D} (hds:ops.map (·.dst)=ds) (hw:Cv ds st.env o.guard=some true) (hd:o.dst=some d) (hc:CO o (ev E st.env)=some (f,args)) (h:IC E f args' Pre Post x) (hco:CoL args args')
  (hσ:st.σ=own++τ) (hown:∀ p∈own,get τ p.1=none) (hpre:Pre τ) (k:∀ τ',Post τ'→(∀ p∈own,get τ' p.1=none)→AOps E N ops g Q rest { env:=(d,x) :: st.env,σ:=own++τ' }):AOps E N ops g Q (o :: rest) st:=by
 refine Vm (by rw[← Cl hds]; exact hw) hσ (Xx hc hco hd h hpre hown) fun τ' a b=>?_;simp only[hd,St.env'];exact k τ' a b
theorem Wi {c:Call} {fo xo:Operand} {n:Nm} {own τ:Sto} {Pre Post:Sto→Prop} {d:Nat} {x:D} (hds:ops.map (·.dst)=ds) (hw:Cv ds st.env o.guard=some true) (hd:o.dst=some d) (hop:o.op=.call c) (hc:c.callee=.value fo) (ha:c.args=#[xo]) (hf:ev E st.env fo=.yld n) (h:YC E n x Pre Post) (hco:Co (ev E st.env xo) x)
  (hσ:st.σ=own++τ) (hown:∀ p∈own,get τ p.1=none) (hpre:Pre τ) (k:∀ τ',Post τ'→(∀ p∈own,get τ' p.1=none)→AOps E N ops g Q rest { env:=(d,.val (.bool true)) :: st.env,σ:=own++τ' }):AOps E N ops g Q (o :: rest) st:=by
 refine Vm (by rw[← Cl hds]; exact hw) hσ (Xy hop hc ha hf hco h hpre hown) fun τ' a b=>?_;simp only[hd,St.env'];exact k τ' a b
end
theorem V.rebase {G:Gh} {w:World} {v:Value} {d:D} (b:Nat) (h:V G w v d):V { G with base:=b } w v d:=h.mono (fun _ h=>h) (fun _ _=>rfl) (fun _ _ h=>h)
theorem WF.rebase {w0:World} {G:Gh} {w:World} (b:Nat) (h:WF w0 G w):WF w0 { G with base:=b } w:=⟨h.below,h.old,h.lt,h.nm⟩
theorem Objs.rebase {w0:World} {G:Gh} {w:World} {κ:Kp} (b:Nat) (h:Objs w0 G w κ):Objs w0 { G with base:=b } w κ :=
 ⟨fun n o hn=>let ⟨u,h1,h2,h3⟩:=h.ob n o hn; ⟨u,h1,h2.mono (fun _ _ h=>h.rebase b) fun _ _=>rfl,h3⟩,h.ne⟩
theorem Step.rebase {R:Nm→Prop} {G G' : Gh} {w w' : World} {κ κ' : Kp} (b:Nat) (h:Step R { G with base:=b } w κ G' w' κ'):Step R G w κ { G' with base:=G.base } w' κ' :=
 ⟨h.size,h.heap,h.F,h.F',h.ρ,h.ρ',h.top,h.blk',h.dom,rfl⟩
theorem Y4 (n:Nm) (o o' : Ob) (σ:Sto):Kp.put (get ((n,o) :: σ)) n o'=get ((n,o') :: σ):=by
 funext m
 simp only[Kp.put,get];split <;> rfl
theorem UB (W:World) (l:Nat) (o:Obj):Gr W (W.putObj l o) (blk (.pointer (some ⟨l,0,none⟩))):=Gr.of (grownBy_putObj' W l o)
theorem L4 {w0:World} {G:Gh} {w:World} {n:Nm} {rc rc' : Loop} {env:List (Nat × D)} {σ:Sto} {l:Nat} (hw:WF w0 G w) (ho:Objs w0 G w (get ((n,.loop rc env) :: σ))) (hρ:G.ρ n=some (.pointer (some ⟨l,0,none⟩))) (ht:rc'.tmps=rc.tmps) :
  w.heap[l]?=some (.loop rc)∧WF w0 G (w.putObj l (.loop rc'))∧Objs w0 G (w.putObj l (.loop rc')) (get ((n,.loop rc' env) :: σ))∧Step no G w (get ((n,.loop rc env) :: σ)) G (w.putObj l (.loop rc')) (get ((n,.loop rc' env) :: σ)):=by
 have g:get ((n,Ob.loop rc env) :: σ) n=some (.loop rc env):=by simp[get]
 obtain ⟨u,i,⟨v,rfl,f,m⟩,k⟩:=ho.ob n _ g;rw[hρ] at i;cases i;have p:¬ G.F l:=k l rfl;have o:l < w.heap.size:=(fa.1 f).1;obtain ⟨j,a,b⟩:=EV (ob':=.loop rc' env) hw ho g hρ (UB w l (.loop rc')) ⟨l,rfl,World.putObj_heap_same o,fun t d q=>by
  obtain ⟨r,s⟩:=m t d q;rw[ht];exact ⟨r,s.mono (fun _ h=>h) (fun _ c=>World.putObj_heap_other (fun e=>p (by first | exact e ▸ c | exact e.symm ▸ c))) (fun _ _ h=>h)⟩⟩
 rw[Y4] at a b;exact ⟨f,j,a,b.weaken fun _ _ h=>h.elim⟩
theorem aax {G:Gh} {w:World} {tmps:Array Value} {env:List (Nat × D)} {p:Nat} {v:Value} {x:D} (h:∀ t d,lk env t=some d→t < tmps.size∧V G w (tmps.getD t undef) d) (hp:p < tmps.size) (hv:V G w v x) :
  ∀ t d,lk ((p,x) :: env) t=some d→t < (tmps.setIfInBounds p v).size∧V G w ((tmps.setIfInBounds p v).getD t undef) d:=by
 intro t d a;simp only[lk] at a;split at a
 ·rename_i e;subst e;cases a;refine ⟨by simpa using hp,?_⟩;rw[er,Array.getElem?_setIfInBounds_self_of_lt hp];exact hv
 ·rename_i e;obtain ⟨b,c⟩:=h t d a;refine ⟨by simpa using b,?_⟩;rw[er,Array.getElem?_setIfInBounds_ne e,← er];exact c
theorem Y5 {E:Ctx} {N p:Nat} {x:D} {n:Nm} {rc:Loop} {env:List (Nat × D)} {J J' : Sto→Prop} (hst:rc.state=.ready) (hpe:rc.pending=none) (hps:rc.params=#[p]) (hN:rc.tmps.size=N) (hp:p < N)
  (hround:∀ σ,J σ→AWp E.rnd N rc.assign (F1 (fun s=>AWp E.rnd N rc.body (F1 (fun s'=>J' s'.σ) fun _ _=>False) s) fun _ _=>False) { env:=(p,x) :: env,σ:=σ }) :
  YC E n x (fun τ=>∃ σ,τ=(n,.loop rc env) :: σ∧J σ∧get σ n=none) (fun τ=>∃ σ,τ=(n,.loop rc env) :: σ∧J' σ∧get σ n=none):=by
 rintro f A G w τ l v ⟨σ,rfl,hJ,hn⟩ hw C hv X r;have ac:get ((n,Ob.loop rc env) :: σ) n=some (.loop rc env):=by simp[get]
 obtain ⟨u,T,⟨l',rfl,hl,a7⟩,hF⟩:=C.ob n _ ac;rw[X] at T;cases T;have W:=run_yield (P:=E.P) (args:=#[v]) hl (by rw[hps]; rfl);refine ⟨_,_,_,_,W,roundIn_of_wpIn (Fi r _) ?_⟩;clear W;have ao:(rc.params.zip #[v]).foldl (fun tmps (t,a)=>tmps.setIfInBounds t a) rc.tmps=rc.tmps.setIfInBounds p v:=by rw[hps]; simp
 rw[ao];have U:=hw.rebase 0;have H:=C.rebase 0;have K:∀ q∈[(n,Ob.loop rc env)],get σ q.1=none:=fun q j=>by
  rw[eg.1 j];exact hn
 have ai:Rel f { G with base:=0 } w { tmps:=rc.tmps.setIfInBounds p v,defers:=[] } { env:=(p,x) :: env,σ:=σ } :=
  ⟨U,fun t d c=>(let ⟨k1,k2⟩:=aax a7 (by rw[hN]; exact hp) hv t d c; ⟨k1,k2.rebase 0⟩),H.sub fun m o g=>F9 K m o g,.nil (dX _)⟩
 have h1:=hround σ hJ f A { G with base:=0 } w { tmps:=rc.tmps.setIfInBounds p v,defers:=[] } (by simp[hN]) ai (some l) (fun h=>by cases h);refine wpIn_mono (F:=Fr (some l)) (P:=E.P) h1 ?_;rintro e z w1 ⟨y,Z,ak,b,R,M⟩;cases e with
 | normal =>
  obtain ⟨ad,i,al⟩:=HX (own:=[(n,Ob.loop rc env)]) U H K R b.objs;have Y:=R.ρ n _ X;obtain ⟨a9,V,I,k⟩:=L4 (rc':={ rc with state:=.busy }) b.wf i Y rfl;have L:∀ q∈[(n,Ob.loop { rc with state:=.busy } env)],get Z.σ q.1=none:=fun q j=>by
   rw[eg.1 j];exact ad (n,Ob.loop rc env) (eg.2 rfl)
  have aj:Rel f y (w1.putObj l (.loop { rc with state:=.busy })) z Z :=
   ⟨V,fun t d c=>⟨(b.env t d c).1,(b.env t d c).2.step k b.wf i⟩,I.sub fun m o g=>F9 L m o g,b.defers.step k b.wf i⟩
  have h2:=M f A y _ z ak aj (some l) (fun h=>by cases h);refine ⟨_,run_beginRound a9 hst,wpIn_mono (F:=Fr (some l)) (P:=E.P) h2 ?_⟩;rintro e a3 w3 ⟨G3,a0,ay,Q,S,O⟩;cases e with
  | normal =>
   obtain ⟨ae,af,am⟩:=HX (own:=[(n,Ob.loop { rc with state:=.busy } env)]) V I L S Q.objs;have au:=S.ρ n _ Y;obtain ⟨aa,ar,ag,an⟩:=L4 (rc':=rc) Q.wf af au rfl;have B:=run_endRound (P:=E.P) none aa;have ah:({ { rc with state:=LoopState.busy } with state:=(if (none:Option Code).isNone then .ready else .done),pending:=none }:Loop)=rc:=by
    cases rc
    simp_all
   rw[ah] at B;refine ⟨_,_,B,rfl,{ G3 with base:=G.base },(n,.loop rc env) :: a0.σ,⟨a0.σ,rfl,O,ae (n,Ob.loop { rc with state:=.busy } env) (eg.2 rfl)⟩,ar.rebase _,ag.rebase _,Step.rebase 0 (((al.trans k).trans am).trans an)⟩
  | _=>exact O.elim
 | _=>exact M.elim
end Go.Ab
