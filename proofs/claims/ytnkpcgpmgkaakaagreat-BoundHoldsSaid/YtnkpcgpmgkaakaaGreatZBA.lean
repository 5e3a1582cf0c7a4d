/- A part of the proof: ZBA. -/
import Derived.Test.YtnkpcgpmgkaakaaGreatZAZ
namespace Go.Proofs.T
open Go Go.Ab Go.RowKit
theorem Fz {m:Nat}:∀ {l:List Ty},DD l≤m↔∀ x∈l,Br x≤m
 | []=>by simp[DD]
 | t :: r=>by
  have ih:=@Fz m r;rw[DD];constructor
  ·intro h x hx;rcases eq.1 hx with rfl | hx
   ·split at h <;> omega
   ·exact ih.1 (by split at h <;> omega) x hx
  ·intro h;have h1:=h t dY;have h2:=ih.2 fun x hx=>h x (ea _ hx);split <;> omega
theorem Ge (n:Str) (a:List Ty) (q:Int):Br (.mk n a q)=1 + DD a:=rfl
theorem Jy {t x:Ty} (h:x∈t.args):Br x + 1≤Br t:=by
 rw[D7 t];have:=(Fz (m:=DD t.args)).1 (ec _) x h;omega
theorem Yv (t:Ty):1≤Br t:=by rw[D7]; omega
inductive Wf (p:Prg) (vs:List Str):Ty→Prop
 | var {n:Str} {q:Int}:n∈vs→Wf p vs (.mk n [] q)
 | mk {n:Str} {a:List Ty} {q:Int}:AU p n≠0→a.length=(Bf p n).length→(∀ x∈a,Wf p vs x)→Wf p vs (.mk n a q)
structure Rnk (p:Prg) where
 S:Nat
 N:Nat
 rk:Nd→Nat
 pos:1≤S
 le:∀ n,rk n≤N
 next:∀ e∈rpE p,rk e.frm≤rk e.to
 ins:∀ e∈rpE p,e.ins=true→e.frm∈Bv p→rk e.frm + 1≤rk e.to
inductive Inv {p:Prg} (R:Rnk p):Ty→Prop
 | mk {n:Str} {a:List Ty} {q:Int}:AU p n≠0→a.length=(Bf p n).length→(∀ x∈a,Inv R x)→(∀ (i:Nat) (h:i < a.length),Br a[i]≤R.S * (R.rk ⟨false,n,(i:Int)⟩ + 1))→Inv R (.mk n a q)
theorem Inv.iff {p:Prg} {R:Rnk p} (t:Ty):Inv R t↔AU p t.name≠0∧t.args.length=(Bf p t.name).length∧(∀ x∈t.args,Inv R x)∧∀ (i:Nat) (h:i < t.args.length),Br t.args[i]≤R.S * (R.rk ⟨false,t.name,(i:Int)⟩ + 1):=by
 constructor
 ·rintro ⟨a,b,c,d⟩;exact ⟨a,b,c,d⟩
 ·intro h;cases t;exact .mk h.1 h.2.1 h.2.2.1 h.2.2.2
theorem Inv.pos {p:Prg} {R:Rnk p} {n:Str} {a:List Ty} {q q' : Int} (h:Inv R (.mk n a q)):Inv R (.mk n a q'):=by
 rw[Inv.iff] at h ⊢;exact h
theorem Inv.dep {p:Prg} {R:Rnk p} {t:Ty} (h:Inv R t):Br t≤R.S * (R.N + 2):=by
 rw[Inv.iff] at h;obtain ⟨_,_,_,a⟩:=h;have e:=R.pos;have d:DD t.args≤R.S * (R.N + 1):=Fz.2 fun _ c=>by
  obtain ⟨i,b,rfl⟩:=eT.1 c;exact ef (a i b) (gY _ (ij (R.le _)))
 rw[D7,show R.N + 2=R.N + 1 + 1 from rfl,Nat.mul_succ];omega
theorem Wf.inv {p:Prg} (R:Rnk p):∀ t:Ty,Wf p [] t→Br t≤R.S→Inv R t:=by
 refine Ty.ind fun t ih h _=>?_;cases h with
 | var h=>cases h
 | @mk n a q h1 h2 h3 =>
  refine .mk h1 h2 (fun x b=>ih x b (h3 x b) ?_) fun i d=>?_
  ·have:=Jy (t:=.mk n a q) b; omega
  ·have:=Jy (t:=.mk n a q) (dP d);have c:R.S≤R.S * (R.rk ⟨false,n,(i:Int)⟩ + 1):=ia _ (iq _);exact ef (by omega) c
structure VarOk {p:Prg} (R:Rnk p) (sc:Sc) (ns:List Str) (us:List Ty) (v:Str):Prop where
 zero:AU p v=0
 some:∃ U nd,look ns us v=some U∧Bm sc v=some nd∧nd∈Bv p∧Inv R U∧Br U≤R.S * (R.rk nd + 1)
theorem ZZ {ns:List Str} {us:List Ty} {n:Str} (h:n∉ns):look ns us n=none:=by
 refine Q9 ?_;rw[List.findIdx?_eq_none_iff];intro x a;refine fI.2 fun e=>h ?_;unfold isS at e;have:=of_decide_eq_true e;rw[← this];exact a
theorem EU {ns:List Str} {us:List Ty} {n:Str} {q:Int} {U:Ty} (h:look ns us n=some U):AD ns us (.mk n [] q)=.mk U.name U.args q:=by
 rw[EY];simp[h]
theorem D9 {ns:List Str} {us:List Ty} {n:Str} {a:List Ty} {q:Int} (h:n∉ns∨a≠[]):AD ns us (.mk n a q)=.mk n (a.map (AD ns us)) q:=by
 rw[EY];simp only[Ty.args_mk,Ty.name_mk,Ty.pos_mk];rcases h with h | h
 ·rw[ZZ h];cases a.isEmpty <;> rfl
 ·cases a with
  | nil=>exact absurd rfl h
  | cons x r=>rfl
theorem VO {sc:Sc} {to:Nd} {n:Str} {q:Int} {ins:Bool} {nd:Nd} (h:Bm sc n=some nd):inE sc to (.mk n [] q) ins=[⟨nd,to,ins⟩]:=by
 rw[inE,h]
 rfl
theorem VP {sc:Sc} {to:Nd} {n:Str} {a:List Ty} {q:Int} {ins:Bool} {x:Ty} (hx:x∈a) {e:Ed} (he:e∈inE sc to x true):e∈inE sc to (.mk n a q) ins:=by
 rw[inE,Mt];exact eP _ (ez.2 ⟨x,hx,he⟩)
section
variable {p:Prg} {R:Rnk p} {sc:Sc} {ns:List Str} {us:List Ty}
theorem QM (hv:∀ v∈ns,VarOk R sc ns us v) {n:Str} (h:AU p n≠0):n∉ns:=fun hn=>h (hv n hn).zero
theorem abN (hv:∀ v∈ns,VarOk R sc ns us v) (to:Nd):∀ t:Ty,Wf p ns t→(∀ e∈inE sc to t true,e∈rpE p)→Br (AD ns us t)≤Br t + R.S * R.rk to:=by
 refine Ty.ind fun t ih h f=>?_;cases h with
 | @var n q hn =>
  obtain ⟨U,o,c,g,d,j,i⟩:=(hv n hn).some;rw[EU c,Ge,← D7 U];rw[VO g] at f;have:=R.ins _ (f _ dY) rfl d;simp only at this;exact ef (ef i (gY _ this)) (Nat.le_add_left _ _)
 | @mk n a q c g d =>
  rw[D9 (.inl (QM hv c)),Ge,Ge,fU];refine Nat.add_le_add_left (Fz.2 fun _ l=>?_) 1;obtain ⟨x,b,rfl⟩:=eh.1 l;have j:=ih x b (d x b) fun e k=>f e (VP b k);have i:=(Fz (m:=DD a)).1 (ec _) x b;omega
theorem Yw (hv:∀ v∈ns,VarOk R sc ns us v) (to:Nd) (t:Ty) (h:Wf p ns t) (hd:Br t≤R.S) (he:∀ e∈inE sc to t false,e∈rpE p):Br (AD ns us t)≤R.S * (R.rk to + 1):=by
 cases h with
 | @var n q hn =>
  obtain ⟨U,o,b,d,f,i,g⟩:=(hv n hn).some;rw[EU b,Ge,← D7 U];rw[VO d] at he;have:=R.next _ (he _ dY);simp only at this;exact ef g (gY _ (ij this))
 | @mk n a q b d f =>
  rw[D9 (.inl (QM hv b)),Ge,Nat.mul_succ];have l:DD (a.map (AD ns us))≤DD a + R.S * R.rk to:=Fz.2 fun _ k=>by
   obtain ⟨x,c,rfl⟩:=eh.1 k;have i:=abN hv to x (f x c) fun e j=>he e (VP c j);have g:=(Fz (m:=DD a)).1 (ec _) x c;omega
  rw[Ge] at hd;omega
theorem Kt {b:Bool} {o:Str}:∀ {l:List Ty} {i j:Nat} (h:j < l.length) {e:Ed},e∈inE sc ⟨b,o,((i + j:Nat):Int)⟩ l[j] false∨e∈visE sc l[j]→e∈Bs sc l b o i
 | [],_,_,h,_,_=>by simp at h
 | t :: r,i,0,_,e,he=>by
  rw[Bs];simp only[gD,List.getElem_cons_zero] at he;exact eI _ (eu.2 he)
 | t :: r,i,j + 1,h,e,he=>by
  rw[Bs];refine eP _ (Kt (i:=i + 1) (j:=j) (by simpa using h) ?_);rw[show i + 1 + j=i + (j + 1) by omega];exact he
theorem Ku (hv:∀ v∈ns,VarOk R sc ns us v):∀ t:Ty,Wf p ns t→Br t≤R.S→(∀ e∈visE sc t,e∈rpE p)→Inv R (AD ns us t):=by
 refine Ty.ind fun t ih h _ g=>?_;cases h with
 | @var n q hn =>
  obtain ⟨U,w,c,l,f,m,u⟩:=(hv n hn).some;rw[EU c];rw[← Ty.eta U] at m;exact m.pos
 | @mk n a q c l f =>
  rw[D9 (.inl (QM hv c))];rw[visE] at g;have o:∀ x∈a,Br x≤R.S:=fun x b=>by
   have:=Jy (t:=.mk n a q) b;omega
  refine .mk c (by rw[ei]; exact l) (fun _ s=>?_) fun i d=>?_
  ·obtain ⟨x,b,rfl⟩:=eh.1 s;obtain ⟨j,r,rfl⟩:=eT.1 b;exact ih _ b (f _ b) (o _ b) fun e k=>g e (Kt (i:=0) r (.inr k))
  ·rw[ei] at d;rw[fY];refine Yw hv _ _ (f _ (dP d)) (o _ (dP d)) fun e k=>g e (Kt (i:=0) d (.inl ?_));rw[eN];exact k
end
theorem MM {p:Prg} {env:List Formal}:∀ {l:List Ty},Dz p env l=none→∀ x∈l,BR p env x=none
 | [],_,x,hx=>nomatch hx
 | t :: r,h,x,hx=>by
  rw[Dz] at h;cases ht:BR p env t with
  | some i=>rw[ht] at h; cases h
  | none =>
   rw[ht] at h;rcases eq.1 hx with rfl | hx
   ·exact ht
   ·exact MM h x hx
theorem WS {env:List Formal} {t:Ty} (h:0≤Ci env t):t.args=[]∧t.name∈env.map (·.name):=by
 unfold Ci at h;split at h
 ·rename_i h0;refine ⟨ex h0,?_⟩;cases b:env.findIdx? fun f=>isS t.name f.name with
  | none=>rw[b] at h; simp[optI] at h
  | some i =>
   obtain ⟨c,a,_⟩:=eU.1 b;unfold isS at a;have:=of_decide_eq_true a;exact eh.2 ⟨env[i],dP c,this⟩
 ·omega
theorem FA {p:Prg} {env:List Formal}:∀ t:Ty,BR p env t=none→Wf p (env.map (·.name)) t:=by
 refine Ty.ind fun t ih h=>?_;rw[Tm] at h;cases t with
 | mk n a q =>
  split at h
  ·rename_i h0;obtain ⟨b,c⟩:=WS h0;simp only[Ty.args_mk] at b;subst b;exact .var c
  ·split at h
   ·cases h
   ·rename_i b;simp only[Ty.args_mk,Ty.name_mk] at h b ih;cases d:Dz p env a with
    | some i=>rw[d] at h; cases h
    | none=>exact .mk (fun e=>b (.inl e)) (by have c:¬ (Bf p n).length≠a.length:=fun e=>b (.inr e); omega) fun x f=>ih x f (MM d x f)
theorem Uf {p:Prg} {env l:List Formal}:∀ (m k:Nat),l.length - k=m→GK p env l k (l.drop k)=none→∀ j (hj:j < l.length),k≤j→AU p l[j].name=0∧l[j].name∉(env++l.take j).map (·.name)
 | 0,k,hm,_,j,hj,hk=>by omega
 | m + 1,k,hm,h,j,hj,hk=>by
  have hlt:k < l.length:=by omega
  rw[PP hlt] at h;split at h
  ·cases h
  ·split at h
   ·cases h
   ·rename_i a b;by_cases e:k=j
    ·subst e;exact ⟨by simpa using a,b⟩
    ·exact Uf m (k + 1) (by omega) h j hj (by omega)
theorem N8 {l m:List Str} (hl:l.Nodup) (h:∀ j (hj:j < m.length),m[j]∉l++m.take j):(l++m).Nodup:=by
 have key:∀ k,k≤m.length→(l++m.take k).Nodup:=by
  intro k;induction k with
  | zero=>intro _; simpa using hl
  | succ k ih =>
   intro e;have b:=ih (by omega);rw[ep,dO (by omega:k < m.length),← eE];have c:=h k (by omega);rw[gc];refine ⟨b,by simp,fun _ d _ a=>?_⟩;simp only[gh,eg] at a;subst a;rintro rfl;exact c d
 have:=key m.length (ec _);rwa [eo] at this
theorem Ug {p:Prg} {env l:List Formal} (h:fms15 p env l=none) (he:(env.map (·.name)).Nodup):((env++l).map (·.name)).Nodup∧∀ f∈l,AU p f.name=0:=by
 unfold fms15 at h;cases b:GK p env l 0 l with
 | some i=>rw[b] at h; cases h
 | none =>
  have c:=Uf (p:=p) (env:=env) (l:=l) l.length 0 (by omega) b;refine ⟨?_,fun f d=>?_⟩
  ·rw[eC];refine N8 he fun j a=>?_;rw[ei] at a;have:=(c j a (dX _)).2;rw[eC,List.map_take] at this;rw[fY];exact this
  ·obtain ⟨j,a,rfl⟩:=eT.1 d;exact (c j a (dX _)).1
theorem Uh {p:Prg} {env:List Formal} {l:List Param} (h:pas15 p env l=none):∀ q∈l,BR p env q.type=none:=by
 have key:∀ (m k:Nat),l.length - k=m→Hv p env l k (l.drop k)=none→∀ j (a:j < l.length),k≤j→BR p env l[j].type=none:=by
  intro m;induction m with
  | zero=>intro k f _ j a c; omega
  | succ m ih =>
   intro k f h j a c;have d:k < l.length:=by omega
   rw[PQ d] at h;split at h
   ·cases h
   ·cases b:BR p env l[k].type with
    | some i=>rw[b] at h; cases h
    | none =>
     rw[b] at h;by_cases e:k=j
     ·subst e; exact b
     ·exact ih (k + 1) (by omega) h j a (by omega)
 intro q g;obtain ⟨j,a,rfl⟩:=eT.1 g;exact key l.length 0 (by omega) h j a (dX _)
structure SigOk (p:Prg) (vs:List Str) (s:Sig):Prop where
 nodup:(vs++s.formals.map (·.name)).Nodup
 zero:∀ f∈s.formals,AU p f.name=0
 par:∀ q∈s.params,Wf p (vs++s.formals.map (·.name)) q.type
 res:Wf p (vs++s.formals.map (·.name)) s.result
theorem Ui {p:Prg} {env:List Formal} {s:Sig} (h:sig15 p env s=none) (he:(env.map (·.name)).Nodup):SigOk p (env.map (·.name)) s:=by
 unfold sig15 at h;cases b:fms15 p env s.formals with
 | some i=>rw[b] at h; cases h
 | none =>
  rw[b] at h;cases c:pas15 p (env++s.formals) s.params with
  | some i=>simp only[c] at h; cases h
  | none =>
   simp only[c] at h;obtain ⟨d,e⟩:=Ug b he;have a:(env++s.formals).map (·.name)=env.map (·.name)++s.formals.map (·.name):=eC;rw[a] at d;refine ⟨d,e,fun q f=>?_,?_⟩
   ·have:=FA _ (Uh c q f);rwa [a] at this
   ·have:=FA _ h;rwa [a] at this
theorem Z0 {p:Prg} {env:List Formal} {l:List Sig} (h:sgs15 p env l 0 l=none):∀ s∈l,sig15 p env s=none:=by
 have key:∀ (m k:Nat),l.length - k=m→sgs15 p env l k (l.drop k)=none→∀ j (a:j < l.length),k≤j→sig15 p env l[j]=none:=by
  intro m;induction m with
  | zero=>intro k f _ j a c; omega
  | succ m ih =>
   intro k f h j a c;have d:k < l.length:=by omega
   rw[Lf d] at h;split at h
   ·cases h
   ·cases b:sig15 p env l[k] with
    | some i=>rw[b] at h; cases h
    | none =>
     rw[b] at h;by_cases e:k=j
     ·subst e; exact b
     ·exact ih (k + 1) (by omega) h j a (by omega)
 intro q g;obtain ⟨j,a,rfl⟩:=eT.1 g;exact key l.length 0 (by omega) h j a (dX _)
theorem Yx {p:Prg} {l:List Str} (h:EM p l 0 l=false):l.Nodup∧∀ v∈l,AU p v=0:=by
 have key:∀ (m k:Nat),l.length - k=m→EM p l k (l.drop k)=false→∀ j (a:j < l.length),k≤j→AU p l[j]=0∧l[j]∉l.take j:=by
  intro m;induction m with
  | zero=>intro k g _ j a b; omega
  | succ m ih =>
   intro k g h j a b;have f:k < l.length:=by omega
   rw[Mx f] at h;split at h
   ·cases h
   ·split at h
    ·cases h
    ·rename_i c d;by_cases e:k=j
     ·subst e; exact ⟨by simpa using c,d⟩
     ·exact ih (k + 1) (by omega) h j a (by omega)
 have b:=key l.length 0 (by omega) h;refine ⟨?_,fun v i=>?_⟩
 ·have:=N8 (l:=[]) (m:=l) (by simp) fun j a=>by simpa using (b j a (dX _)).2
  simpa using this
 ·obtain ⟨j,a,rfl⟩:=eT.1 i;exact (b j a (dX _)).1
theorem Yy {c:Cx} {q:Kn} {w:Ty} (h:(fitR c q w).bad=false):q.res.bad=false:=by
 unfold fitR at h;split at h
 ·exact h
 ·rename_i a;exact fI.2 a
theorem QN {c:Cx}:∀ {l:List Kn} {ws:List Ty},l.length≤ws.length→(E4 c l ws).bad=false→∀ q∈l,q.res.bad=false
 | [],_,_,_,q,hq=>nomatch hq
 | k :: l,[],hl,_,_,_=>by simp at hl
 | k :: l,w :: ws,hl,h,q,hq=>by
  rw[E4] at h;split at h
  ·rename_i hb;rw[hb] at h;cases h
  ·rename_i hb;rcases eq.1 hq with rfl | hq
   ·exact Yy (fI.2 hb)
   ·exact QN (by simpa using hl) h q hq
theorem MN {x:Ty} {r:Rz} (h:(FY x r).2.bad=false):r.bad=false∧(FY x r).1=x:=by
 unfold FY at h ⊢;split at h
 ·cases h
 ·rename_i a;exact ⟨h,by rw[if_neg a]⟩
theorem BQ {i:Int} (h:(noR i).2.bad=false):False:=by cases h
theorem RL (c:Cx):∀ e:Ex,BI e=true→(inf c e).2.bad=false→∀ x∈AB e,((x.kind=3∨x.kind=5)→BR c.p c.env x.type=none)∧(x.kind=2→∀ t∈x.targs,BR c.p c.env t=none):=by
 refine Ex.ind fun e ih o h x l=>?_;have d:=P5 o;have G:∀ k∈e.kids,BI k=true:=by
  rw[DX,ej,eL] at o;exact o.1
 rw[PT] at h;rw[BC,BF] at l
 -- it is enough to know this of the head,and that no kid is bad
 have g:((e.kind=3∨e.kind=5)→BR c.p c.env e.type=none)→(e.kind=2→∀ t∈e.targs,BR c.p c.env t=none)→(∀ k∈e.kids,(inf c k).2.bad=false)→((x.kind=3∨x.kind=5)→BR c.p c.env x.type=none)∧(x.kind=2→∀ t∈x.targs,BR c.p c.env t=none):=by
  intro y z A;rcases eq.1 l with rfl | l
  ·exact ⟨y,z⟩
  ·obtain ⟨k,a,H⟩:=ez.1 l;exact ih k a (G k a) (A k a) x H
 unfold Dj at d;unfold Fg at h;by_cases u:e.kind=1
 ·rw[if_pos u] at d;have h0:=of_decide_eq_true d;have E:e.kids=[]:=ex (by omega);exact g (by omega) (by omega) (by rw[E]; exact fun _ h=>nomatch h)
 ·rw[if_neg u] at h d;by_cases q:e.kind=3
  ·rw[if_pos q] at h;unfold litR at h;cases f:BR c.p c.env e.type with
   | some i=>rw[f] at h; exact (BQ h).elim
   | none =>
    rw[f] at h;simp only at h;split at h
    ·exact (BQ h).elim
    ·split at h
     ·exact (BQ h).elim
     ·rename_i n;have m:=QN (by rw[ei] at n; simp; omega) h;exact g (fun _=>f) (by omega) fun k a=>m (kn c k) (eh.2 ⟨k,a,rfl⟩)
  ·rw[if_neg q] at h;split at h
   ·exact (BQ h).elim
   ·rename_i K;obtain ⟨w,j⟩:∃ L,e.kids=L:=⟨_,rfl⟩
    cases w with
    | nil=>rw[j] at h; exact (BQ h).elim
    | cons s J =>
     rw[j,eM] at h;simp only at h;unfold Nf at h;by_cases b:(kn c s).res.bad=true
     ·rw[if_pos b] at h;rw[b] at h;cases h
     ·rw[if_neg b] at h;have b:(inf c s).2.bad=false:=fI.2 b;by_cases v:e.kind=2
      ·rw[if_pos v] at h;unfold Nc at h;split at h
       ·exact (BQ h).elim
       ·unfold Nb at h;split at h
        ·exact (BQ h).elim
        ·split at h
         ·exact (BQ h).elim
         ·rename_i D;split at h
          ·exact (BQ h).elim
          ·split at h
           ·exact (BQ h).elim
           ·rename_i n;have m:=QN (by rw[ei] at n; rw[ei,ei]; omega) (MN h).1;refine g (by omega) (fun _=>MM D) fun k a=>?_;rw[j] at a;rcases eq.1 a with rfl | a
            ·exact b
            ·exact m (kn c k) (eh.2 ⟨k,a,rfl⟩)
      ·rw[if_neg v] at h d;have C:e.kind=4∨e.kind=5:=by omega
       rw[if_neg q,if_pos C] at d;have B:=of_decide_eq_true d;have F:J=[]:=by
        rw[j,eB] at B;exact ex (by omega)
       have r:∀ k∈e.kids,(inf c k).2.bad=false:=by
        rw[j,F];intro k a;rw[eg.1 a];exact b
       by_cases I:e.kind=4
       ·exact g (by omega) (by omega) r
       ·rw[if_neg I] at h;unfold PS at h;cases f:BR c.p c.env e.type with
        | some i=>rw[f] at h; exact (BQ h).elim
        | none=>exact g (fun _=>f) (by omega) r
theorem abk {p:Prg} {s:Bool} (h:(prg17 p s).bad=false):(∀ (i:Nat) (hi:i < p.decls.length),hd15 p i p.decls[i]=none∧(body17 p s p.decls[i]).bad=false)∧(inf ⟨p,s,[],[]⟩ p.main).2.bad=false:=by
 have key:∀ (m k:Nat),p.decls.length - k=m→k≤p.decls.length→(Fh p s k (p.decls.drop k)).bad=false→(∀ (i:Nat) (hi:i < p.decls.length),k≤i→hd15 p i p.decls[i]=none∧(body17 p s p.decls[i]).bad=false)∧(inf ⟨p,s,[],[]⟩ p.main).2.bad=false:=by
  intro m;induction m with
  | zero =>
   intro k l f h;have:k=p.decls.length:=by omega
   subst this;rw[eY,Fh] at h;exact ⟨fun i hi g=>by omega,h⟩
  | succ m ih =>
   intro k l f h;have j:k < p.decls.length:=by omega
   rw[Mz j] at h;split at h
   ·rename_i a;rw[a] at h;cases h
   ·rename_i a;obtain ⟨b,c⟩:=ih (k + 1) (by omega) (by omega) h;refine ⟨fun i hi g=>?_,c⟩;by_cases e:k=i
    ·subst e;unfold decR at a;cases d:hd15 p k p.decls[k] with
     | some x=>rw[d] at a; exact absurd rfl a
     | none=>rw[d] at a; exact ⟨rfl,fI.2 a⟩
    ·exact b i hi (by omega)
 obtain ⟨b,c⟩:=key p.decls.length 0 (by omega) (by omega) h;exact ⟨fun i hi=>b i hi (dX _),c⟩
structure TyOk (p:Prg) (d:Dec):Prop where
 fm:Bf p d.name=d.formals
 de:(tyDe p d.name).getD BM=d
 nodup:(d.formals.map (·.name)).Nodup
 zero:∀ f∈d.formals,AU p f.name=0
 fld:d.kind=1→∀ q∈d.fields,Wf p (d.formals.map (·.name)) q.type
 sig:d.kind=2→∀ s∈d.sigs,SigOk p (d.formals.map (·.name)) s
theorem ace {p:Prg} {i:Nat} (hi:i < p.decls.length) (hk:p.decls[i].kind=1∨p.decls[i].kind=2) (h:hd15 p i p.decls[i]=none):TyOk p p.decls[i]:=by
 unfold hd15 at h;rw[if_pos hk] at h;unfold typ15 at h;split at h
 ·cases h
 ·rename_i a;have a:CF p p.decls[i].name=some i:=Decidable.not_not.1 a;obtain ⟨_,d⟩:=EE a;cases b:fms15 p [] p.decls[i].formals with
  | some x=>rw[b] at h; cases h
  | none =>
   rw[b] at h;simp only at h;obtain ⟨c,k⟩:=Ug b (by simp);rw[gt] at c;refine ⟨by unfold Bf; rw[d]; rfl,by rw[d]; rfl,c,k,fun j q f=>?_,fun _ s g=>?_⟩
   ·rw[if_pos j] at h;cases e:pas15 p p.decls[i].formals p.decls[i].fields with
    | some x=>rw[e] at h; cases h
    | none=>exact FA _ (Uh e q f)
   ·rw[if_neg (by omega)] at h;exact Ui (Z0 h s g) c
structure MeOk (p:Prg) (d:Dec):Prop where
 one:AU p d.name=1
 len:d.vars.length=(Bf p d.name).length
 nodup:d.vars.Nodup
 zero:∀ v∈d.vars,AU p v=0
 sig:SigOk p d.vars d.sig
 env:(DI p d).map (·.name)=d.vars
theorem RM {ns:List Str} {us:List Ty}:∀ (l:List Formal) (m:List Str),m.length=l.length→(List.zipWith (Ea ns us) l m).map (·.name)=m
 | [],[],_=>rfl
 | [],_ :: _,h=>by simp at h
 | _ :: _,[],h=>by simp at h
 | f :: l,v :: m,h=>by
  rw[List.zipWith_cons_cons,eM,RM l m (by simpa using h)]
  rfl
theorem aag {p:Prg} {i:Nat} (hi:i < p.decls.length) (hk:p.decls[i].kind=3) (h:hd15 p i p.decls[i]=none):MeOk p p.decls[i]:=by
 unfold hd15 at h;rw[if_neg (by omega),if_pos hk] at h;unfold met15 at h;split at h
 ·cases h
 ·rename_i f;split at h
  ·cases h
  ·rename_i a;split at h
   ·cases h
   ·rename_i g;split at h
    ·cases h
    ·cases c:sig15 p (DI p p.decls[i]) p.decls[i].sig with
     | some x=>rw[c] at h; cases h
     | none =>
      have a:=Decidable.not_not.1 a;obtain ⟨e,j⟩:=Yx (fI.2 g);have b:(DI p p.decls[i]).map (·.name)=p.decls[i].vars:=RM _ _ a;have d:=Ui c (by rw[b]; exact e);rw[b] at d;exact ⟨Decidable.not_not.1 f,a,e,j,d,b⟩
theorem MO (u:Nat):Lib.decDigits u≠[]:=by
 rw[Lib.decDigits];split
 ·simp
 ·simp
theorem Sm:∀ u v:Nat,Lib.decDigits u=Lib.decDigits v→u=v:=by
 intro u;induction u using Nat.strongRecOn with
 | _ u ih =>
  intro v h;have g:∀ a b:Nat,a < 10→b < 10→UInt8.ofNat (48 + a)=UInt8.ofNat (48 + b)→a=b:=by
   intro a b l g i;have:=congrArg UInt8.toNat i;rw[UInt8.toNat_ofNat',UInt8.toNat_ofNat'] at this;omega
  rw[Lib.decDigits,Lib.decDigits.eq_def v] at h;by_cases e:u < 10
  ·by_cases c:v < 10
   ·rw[dif_pos e,dif_pos c] at h;exact g u v e c (by simpa using h)
   ·rw[dif_pos e,dif_neg c] at h;have d:=congrArg List.length h;have f:=List.length_pos_iff.2 (MO (v / 10));simp only[dQ,eB,eZ] at d;omega
  ·by_cases c:v < 10
   ·rw[dif_neg e,dif_pos c] at h;have d:=congrArg List.length h;have f:=List.length_pos_iff.2 (MO (u / 10));simp only[dQ,eB,eZ] at d;omega
   ·rw[dif_neg e,dif_neg c] at h;have d:=List.append_inj_left' h rfl;have f:=List.append_inj_right' h rfl;have j:=ih (u / 10) (by omega) (v / 10) d;have k:=g (u % 10) (v % 10) (by omega) (by omega) (by simpa using f);omega
theorem JN (u:Nat):(CQ u).data.toList=(36:UInt8) :: Lib.decDigits u:=by
 unfold CQ decS;rw[ByteArray.data_append,gX]
 rfl
theorem WT {u v:Nat} (h:CQ u=CQ v):u=v:=by
 have a:=JN u;rw[h,JN v] at a;exact (Sm v u (by simpa using a)).symm
theorem P8 (u:Nat):nmOk (CQ u)=false:=by
 unfold nmOk;rw[JN];simp only;have:cls (((36:UInt8).toNat:Nat):Int)=0:=by
  unfold cls;rw[if_neg (by decide),if_neg (by decide),if_neg (by decide),if_neg (by decide)]
 rw[this];simp
theorem Yz {p:Prg} (hr:BY p=true) {n:Str} (h:AU p n≠0):nmOk n=true:=by
 obtain ⟨d,a,rfl⟩:=eh.1 (OA h);have:=GU hr a;unfold Cd at this;simp only[ej] at this;exact this.1
theorem WU {p:Prg} (hr:BY p=true) (u:Nat):AU p (CQ u)=0:=by
 refine Decidable.byContradiction fun h=>?_;have:=Yz hr h;rw[P8] at this;cases this
def Ez (n:Nat):List Str:=(List.range n).map CQ
theorem U9 (n:Nat):(Ez n).Nodup:=RJ List.nodup_range fun _ _ _ _ h=>WT h
theorem N9 (s:Sig):(BH s).formals.map (·.name)=Ez s.formals.length:=by
 apply List.ext_getElem
 ·simp[BH,Ez]
 ·intro i a b;simp[BH,MY,Ez]
theorem abl {l:List Str} (h:l.Nodup) {j:Nat} (hj:j < l.length):l.findIdx? (isS l[j])=some j:=by
 rw[eU];refine ⟨hj,by simp[isS],fun _ _=>?_⟩;simp only[isS,decide_eq_true_eq];intro e;have:=(List.getElem_inj h).1 e;omega
theorem Hh {ns:List Str} {us:List Ty} (h:ns.Nodup) {j:Nat} (hj:j < ns.length) (hu:j < us.length):look ns us ns[j]=some us[j]:=Q8 (abl h hj) hu
theorem WV {s:Sc} {v:Str} (h:v∉s.map (·.1)):Bm s v=none:=by
 induction s with
 | nil=>rfl
 | cons a r ih =>
  rw[eM,eq] at h;rw[Bm,if_neg (fun e=>h (.inl e.symm)),ih fun b=>h (.inr b)]
theorem RN (b:Bool) (o:Str) (ns:List Str):(scN b o ns).map (·.1)=ns:=by
 apply List.ext_getElem
 ·simp[Ff]
 ·intro i a c;rw[fY,Qv]
theorem Z1 {s:Sc} (h:(s.map (·.1)).Nodup):∀ {j:Nat} (hj:j < s.length),Bm s s[j].1=some s[j].2:=by
 induction s with
 | nil=>intro j hj; simp at hj
 | cons a r ih =>
  intro j hj;rw[eM,fA] at h;cases j with
  | zero=>rw[Bm]; simp
  | succ j =>
   have b : j < r.length:=by simpa using hj
   rw[List.getElem_cons_succ,Bm,if_neg,ih h.2 b];intro e;refine h.1 (e ▸ eh.2 ⟨r[j],dP b,rfl⟩)
theorem RO {b:Bool} {o:Str} {ns:List Str} (h:ns.Nodup) {j:Nat} (hj:j < ns.length):Bm (scN b o ns) ns[j]=some ⟨b,o,(j:Int)⟩:=by
 have a:j < (scN b o ns).length:=by rw[Ff]; exact hj
 have:=Z1 (s:=scN b o ns) (by rw[RN]; exact h) a;rw[Qv b o ns j a] at this;exact this
def TB {p:Prg} (R:Rnk p) (b:Bool) (o:Str) (us:List Ty):Prop:=∀ (i:Nat) (h:i < us.length),Inv R us[i]∧Br us[i]≤R.S * (R.rk ⟨b,o,(i:Int)⟩ + 1)
theorem Inv.tb {p:Prg} {R:Rnk p} {x:Ty} (h:Inv R x):TB R false x.name x.args:=by
 rw[Inv.iff] at h;exact fun i a=>⟨h.2.2.1 _ (dP a),h.2.2.2 i a⟩
theorem QO {p:Prg} {R:Rnk p} {dn mn:Str} {ns fs:List Str} {us ts:List Ty} (hnd:(ns++fs).Nodup) (hz:∀ v∈ns++fs,AU p v=0) (hl:us.length=ns.length) (ht:ts.length=fs.length) (hu:TB R false dn us) (htv:TB R true mn ts)
  (hV1:∀ i,i < ns.length→(⟨false,dn,(i:Int)⟩:Nd)∈Bv p) (hV2:∀ i,i < fs.length→(⟨true,mn,(i:Int)⟩:Nd)∈Bv p) :
  ∀ v∈ns++fs,VarOk R (scN false dn ns++scN true mn fs) (ns++fs) (us++ts) v:=by
 intro v h;refine ⟨hz v h,?_⟩;obtain ⟨m,n,o⟩:=gc.1 hnd;obtain ⟨j,a,rfl⟩:=eT.1 h;have g:j < (us++ts).length:=by rw[dQ] at a ⊢; omega
 by_cases e:j < ns.length
 ·have b:(ns++fs)[j]=ns[j]:=gd e;have c:(us++ts)[j]=us[j]'(by omega):=gd (by omega);refine ⟨us[j]'(by omega),⟨false,dn,(j:Int)⟩,?_,?_,hV1 j e,(hu j (by omega)).1,(hu j (by omega)).2⟩
  ·rw[Hh hnd a g,c]
  ·rw[b,ET,RO m e]
 ·have d:j - ns.length < fs.length:=by rw[dQ] at a; omega
  have b:(ns++fs)[j]=fs[j - ns.length]:=gC (by omega);have c:(us++ts)[j]=ts[j - us.length]'(by omega):=gC (by omega);have k:j - us.length=j - ns.length:=by omega
  have f:=htv (j - ns.length) (by omega);refine ⟨ts[j - ns.length]'(by omega),⟨true,mn,((j - ns.length:Nat):Int)⟩,?_,?_,hV2 _ d,f.1,f.2⟩
  ·rw[Hh hnd a g,c];simp only[k]
  ·rw[b,ET,WV,RO n d];rw[RN];exact fun l=>o _ l _ (dP d) rfl
theorem WW {p:Prg} {R:Rnk p} {ns:List Str} {us:List Ty} (hz:∀ v∈ns,AU p v=0):∀ t:Ty,Inv R t→AD ns us t=t:=by
 refine Ty.ind fun t ih h=>?_;rw[Inv.iff] at h;have c:t.name∉ns:=fun b=>h.1 (hz _ b);have e:t=.mk t.name t.args t.pos:=(Ty.eta t).symm;rw[e,D9 (.inl c)]
 congr 1
 have:=gW (g:=fun x=>x) fun x a=>ih x a (h.2.2.1 x a);simpa using this
theorem Z2 {p:Prg} {R:Rnk p} (hr:BY p=true) {ns fs:List Str} {us ts:List Ty} (hnd:(ns++fs).Nodup) (hz:∀ v∈ns++fs,AU p v=0) (hnm:∀ v∈ns,nmOk v=true) (hl:us.length=ns.length) (ht:ts.length=fs.length) (hu:∀ x∈us,Inv R x) :
  ∀ t:Ty,Wf p (ns++fs) t→AD (Ez fs.length) ts (AD ns us (AD fs (Eo fs.length) t))=AD (ns++fs) (us++ts) t:=by
 obtain ⟨H,I,J⟩:=gc.1 hnd;have r:∀ v∈Ez fs.length,AU p v=0:=fun v F=>by
  obtain ⟨i,_,rfl⟩:=eh.1 F;exact WU hr i
 refine Ty.ind fun t ih h=>?_;cases h with
 | @mk n a q h1 h2 h3 =>
  have l:n∉ns++fs:=fun b=>h1 (hz n b);have G:n∉Ez fs.length:=fun b=>h1 (r n b);rw[D9 (ns:=ns++fs) (.inl l),D9 (ns:=fs) (.inl fun b=>l (eP _ b)),D9 (ns:=ns) (.inl fun b=>l (eI _ b)),D9 (.inl G),fB,fB]
  congr 1
  exact gW fun x s=>ih x s (h3 x s)
 | @var n q hn =>
  obtain ⟨j,e,f⟩:=eT.1 hn;have B:j < (us++ts).length:=by rw[dQ] at e ⊢; omega
  have A:look (ns++fs) (us++ts) n=some (us++ts)[j]:=by rw[← f]; exact Hh hnd e B
  rw[EU A];by_cases k:j < ns.length
  ·have c:n=ns[j]:=by rw[← f]; exact gd k
   have d:(us++ts)[j]=us[j]'(by omega):=gd (by omega);have E:n∉fs:=fun b=>J n (by rw[c]; exact dP k) n b rfl;have g:look ns us n=some (us[j]'(by omega)):=by rw[c]; exact Hh H k (by omega)
   rw[D9 (ns:=fs) (.inl E),f9,EU g,d];have m:=hu (us[j]'(by omega)) (dP _);generalize us[j]'(by omega)=U at *;rw[← Ty.eta U] at m;exact WW r _ m.pos
  ·have o:j - ns.length < fs.length:=by rw[dQ] at e; omega
   have c:n=fs[j - ns.length]:=by rw[← f]; exact gC (by omega)
   have d:(us++ts)[j]=ts[j - us.length]'(by omega):=gC (by omega);have u:j - us.length=j - ns.length:=by omega
   have K:(Eo fs.length).length=fs.length:=by simp[Eo]
   have g:look fs (Eo fs.length) n=some (HZ (j - ns.length)):=by
    rw[c,Hh I o (by omega)];simp[Eo]
   have D:CQ (j - ns.length)∉ns:=fun b=>by
    have:=hnm _ b;rw[P8] at this;cases this
   have z:j - ns.length < (Ez fs.length).length:=by simpa [Ez] using o
   have y:(Ez fs.length)[j - ns.length]=CQ (j - ns.length):=by simp[Ez]
   have C:look (Ez fs.length) ts (CQ (j - ns.length))=some (ts[j - ns.length]'(by omega)):=by
    have:=Hh (us:=ts) (U9 fs.length) z (by omega);rwa [y] at this
   rw[EU g];have w:(Ty.mk (HZ (j - ns.length)).name (HZ (j - ns.length)).args q)=.mk (CQ (j - ns.length)) [] q:=rfl;rw[w,D9 (ns:=ns) (.inl D),f9,EU C,d];simp only[u]
theorem Uj {p:Prg} (hr:BY p=true) {e:Ed}:e∈rpE p↔e∈edP p:=by
 rw[TC hr];unfold edP;rw[ZE]
theorem abO {p:Prg} (hr:BY p=true) (hw:wN (Bx p)≤600) (hx:exL (edP p)=[]):∃ R:Rnk p,R.S=dmax (tyPr p) 1∧R.N=kP p :=
  ⟨{ S:=dmax (tyPr p) 1,N:=kP p,rk:=rank (Bv p) (edP p),pos:=JZ _ _
     le:=fun n=>by have:=abi (Bv p) (edP p) n; rw[P4 hw] at this; exact this
     next:=fun e he=>Yu (HP p) ((Uj hr).1 he)
     ins:=fun e he hi hf=>abj (HP p) hx ((Uj hr).1 he) hi hf },rfl,rfl⟩
section
variable {p:Prg} {d:Dec} (hd:d∈p.decls)
include hd
theorem Uk {t:Ty} (h:t∈Cm d):t∈tyPr p:=by
 unfold tyPr;exact eI _ (ez.2 ⟨d,hd,h⟩)
theorem abm {q:Param} (h:q∈d.fields):q.type∈tyPr p:=by
 refine Uk hd ?_;unfold Cm;exact eI _ (eI _ (eP _ (eh.2 ⟨q,h,rfl⟩)))
theorem abn {s:Sig} (h:s∈d.sigs) {t:Ty} (ht:t∈AP s):t∈tyPr p:=by
 refine Uk hd ?_;unfold Cm;exact eI _ (eP _ (ez.2 ⟨s,h,ht⟩))
theorem Ul (h3:d.kind=3) {t:Ty} (ht:t∈AP d.sig∨t∈Bo d.body):t∈tyPr p:=by
 refine Uk hd ?_;unfold Cm;rw[if_pos h3];exact eP _ (eu.2 ht)
theorem Kv {e:Ed} (h:e∈rdE d):e∈rpE p:=ez.2 ⟨d,hd,h⟩
theorem Nj {i:Nat} (h:i < d.formals.length):(⟨false,d.name,(i:Int)⟩:Nd)∈Bv p:=by
 rw[I5,Hg];exact .inl ⟨tyF d,eh.2 ⟨d,hd,rfl⟩,i,h,rfl⟩
theorem QP {s:Sig} (hs:s∈d.sigs∨s=d.sig) {i:Nat} (h:i < s.formals.length):(⟨true,s.name,(i:Int)⟩:Nd)∈Bv p:=by
 rw[I5,Hg];refine .inr ⟨siF s,ez.2 ⟨d,hd,?_⟩,i,h,rfl⟩;unfold meF;refine eh.2 ⟨s,eu.2 ?_,rfl⟩;rcases hs with hs | rfl
 ·exact .inl hs
 ·exact .inr (eg.2 rfl)
end
theorem Um {s:Sig} {q:Param} (h:q∈s.params):q.type∈AP s:=by
 unfold AP;exact eI _ (eP _ (eh.2 ⟨q,h,rfl⟩))
theorem YA (s:Sig):s.result∈AP s:=by
 unfold AP;exact eP _ (eg.2 rfl)
theorem Nk {sc:Sc} {s:Sig} {q:Param} (h:q∈s.params) {e:Ed} (he:e∈visE sc q.type):e∈siE sc s:=by
 unfold siE;exact eI _ (eP _ (ez.2 ⟨q,h,he⟩))
theorem VQ {sc:Sc} {s:Sig} {e:Ed} (he:e∈visE sc s.result):e∈siE sc s:=by
 unfold siE;exact eP _ he
structure Gd (p:Prg) (R:Rnk p):Prop where
 right:BY p=true
 deep:∀ t∈tyPr p,Br t≤R.S
 ty:∀ d∈p.decls,d.kind=1∨d.kind=2→TyOk p d
 me:∀ d∈p.decls,d.kind=3→MeOk p d
 body:∀ d∈p.decls,d.kind=3→∀ x∈AB d.body,((x.kind=3∨x.kind=5)→Wf p (d.vars++d.sig.formals.map (·.name)) x.type)∧(x.kind=2→∀ t∈x.targs,Wf p (d.vars++d.sig.formals.map (·.name)) t)
 main:∀ x∈AB p.main,((x.kind=3∨x.kind=5)→Wf p [] x.type)∧(x.kind=2→∀ t∈x.targs,Wf p [] t)
theorem acf {p:Prg} (R:Rnk p) (hS:R.S=dmax (tyPr p) 1) (hr:BY p=true) (hb:(prg17 p true).bad=false):Gd p R:=by
 obtain ⟨h,n⟩:=abk hb;have k:∀ d∈p.decls,∃ (i:Nat) (a:i < p.decls.length),p.decls[i]=d:=fun d b=>eT.1 b;refine ⟨hr,fun t g=>by rw[hS]; exact IT _ _ _ g,fun d b c=>?_,fun d b c=>?_,fun d b c x l=>?_,fun x l=>?_⟩
 ·obtain ⟨i,a,rfl⟩:=k d b;exact ace a c (h i a).1
 ·obtain ⟨i,a,rfl⟩:=k d b;exact aag a c (h i a).1
 ·obtain ⟨i,a,rfl⟩:=k d b;have q:=aag a c (h i a).1;have j:=(h i a).2;unfold body17 at j;rw[if_pos c] at j;have o:=Yy j;have f:=RL (Dc p true p.decls[i]) _ (N7 (GU hr b) c).1 o x l;have m:(Dc p true p.decls[i]).env.map (·.name)=p.decls[i].vars++p.decls[i].sig.formals.map (·.name):=by
   show (DI p p.decls[i]++p.decls[i].sig.formals).map (·.name)=_;rw[eC,q.env]
  refine ⟨fun e=>?_,fun e t g=>?_⟩
  ·have:=FA _ (f.1 e);rwa [m] at this
  ·have:=FA _ (f.2 e t g);rwa [m] at this
 ·have f:=RL ⟨p,true,[],[]⟩ _ (P7 hr) n x l;exact ⟨fun e=>FA _ (f.1 e),fun e t g=>FA _ (f.2 e t g)⟩
theorem Jz {p:Prg} {n:Str} (h:AU p n≠0):∃ d∈p.decls,tyDe p n=some d∧d.name=n∧(d.kind=1∨d.kind=2):=by
 cases a:CF p n with
 | none =>
  have:=ED a;simp[AU,this,BM] at h
 | some j =>
  obtain ⟨f,b,c,e⟩:=TF a;exact ⟨_,dP f,e,b,c⟩
theorem VR {p:Prg} {n:Str} {d:Dec} (h:tyDe p n=some d):AU p n=d.kind:=by unfold AU; rw[h]; rfl
theorem P9 {p:Prg} {n:Str} {d:Dec} (h:tyDe p n=some d):Bf p n=d.formals:=by unfold Bf; rw[h]; rfl
section
variable {p:Prg} {R:Rnk p} (G:Gd p R)
include G
theorem VS {x:Ty} (hx:Inv R x) (hk:AU p x.name=1):∀ q∈fldX p x,Inv R q.type:=by
 intro q e;obtain ⟨d,b,c,m,o⟩:=Jz (p:=p) (n:=x.name) (by omega);have u:d.kind=1:=by rw[← VR c]; exact hk
 have j:=G.ty d b o;have k:=hx;rw[Inv.iff] at k;have v:x.args.length=d.formals.length:=by rw[k.2.1,P9 c]
 unfold fldX JU at e;rw[c,eX] at e;obtain ⟨w,g,rfl⟩:=eh.1 e;have l:=hx.tb;rw[← m] at l;have a:=QO (R:=R) (dn:=d.name) (mn:=ByteArray.empty) (ns:=d.formals.map (·.name)) (fs:=[]) (us:=x.args) (ts:=[]) (by rw[fe]; exact j.nodup) (fun _ a=>by
  rw[fe] at a;obtain ⟨f,t,rfl⟩:=eh.1 a;exact j.zero f t) (by rw[ei]; exact v) rfl l (fun i h=>by simp at h) (fun i h=>Nj b (by simpa using h)) (fun i h=>by simp at h)
 rw[fe,fe,show scN true ByteArray.empty []=[] from rfl,fe] at a;refine Ku a _ (j.fld u w g) (G.deep _ (abm b g)) fun _ r=>Kv b ?_;unfold rdE rsE;rw[if_neg (by omega)];exact eI _ (Nk (s:=⟨ByteArray.empty,d.formals,d.fields,BV,0⟩) g r)
theorem VT {ns:List Str} {us ts:List Ty} {dn:Str} {s:Sig} (hs:SigOk p ns s) (hz:∀ v∈ns,AU p v=0) (hnm:∀ v∈ns,nmOk v=true) (hl:us.length=ns.length) (ht:ts.length=s.formals.length) (hu:TB R false dn us) (htv:TB R true s.name ts)
  (hV1:∀ i,i < ns.length→(⟨false,dn,(i:Int)⟩:Nd)∈Bv p) (hV2:∀ i,i < s.formals.length→(⟨true,s.name,(i:Int)⟩:Nd)∈Bv p)
  {t:Ty} (hw:Wf p (ns++s.formals.map (·.name)) t) (hd:Br t≤R.S) (he:∀ e∈visE (scN false dn ns++fmN true s.name s.formals) t,e∈rpE p) :
  Inv R (AD (Ez s.formals.length) ts (AD ns us (ownF s t)))∧Inv R (AD (ns++s.formals.map (·.name)) (us++ts) t):=by
 have g:∀ v∈ns++s.formals.map (·.name),AU p v=0:=fun v a=>by
  rcases eu.1 a with a | a
  ·exact hz v a
  ·obtain ⟨f,j,rfl⟩:=eh.1 a;exact hs.zero f j
 have d:ts.length=(s.formals.map (·.name)).length:=by rw[ei]; exact ht
 have a:=QO (R:=R) (dn:=dn) (mn:=s.name) hs.nodup g hl d hu htv hV1 (fun i h=>hV2 i (by simpa using h));have b:Inv R (AD (ns++s.formals.map (·.name)) (us++ts) t):=Ku a t hw hd he;refine ⟨?_,b⟩;have c:=Z2 (R:=R) G.right hs.nodup g hnm hl d (fun _ l=>by
  obtain ⟨i,k,rfl⟩:=eT.1 l;exact (hu i k).1) t hw
 rw[ei] at c;unfold ownF;rw[c];exact b
end
theorem Oa (f:Ty→Ty) (s:Sig):(CT f s).formals.map (·.name)=s.formals.map (·.name):=by
 unfold CT Ji;rw[fB]
 rfl
theorem Hx {d:Dec} {us:List Ty}:∀ (k:Nat) {s:Sig},s∈Bu d us k→∃ s0∈d.sigs,s=FW d us s0
 | 0,s,h=>by simp[Bu] at h
 | k + 1,s,h=>by
  by_cases hk:k < d.sigs.length
  ·rw[Fv d us k hk] at h;split at h
   ·exact Hx k h
   ·rcases eu.1 h with h | h
    ·exact Hx k h
    ·exact ⟨_,dP hk,eg.1 h⟩
  ·simp only[Bu,fh (fX hk)] at h;exact Hx k h
theorem HK {p:Prg} {x:Ty}:∀ (k:Nat) {s:Sig},s∈Cz p x k→∃ (j:Nat) (hj:j < p.decls.length),Hr p x j p.decls[j]=true∧s=mSig x p.decls[j]
 | 0,s,h=>by simp[Cz] at h
 | k + 1,s,h=>by
  by_cases hk:k < p.decls.length
  ·rw[GD p x k hk] at h;split at h
   ·rename_i hp;rcases eu.1 h with h | h
    ·exact HK k h
    ·exact ⟨k,hk,hp,eg.1 h⟩
   ·exact HK k h
  ·simp only[Cz,fh (fX hk)] at h;exact HK k h
theorem VU {p:Prg} {x:Ty} {s:Sig} (h:s∈Bq p [] x):(BN p x 2=true∧s∈spOf p x)∨s∈Cc p x:=by
 have h:=(G9 ltSi (Er p [] x)).subset h;unfold Er at h;have a:D4 [] x=none:=by simp[D4]
 rw[a] at h;simp only[Option.getD_none,hW,fb,or_false] at h;split at h
 ·rename_i b;exact .inl ⟨b,h⟩
 ·exact .inr h
theorem HL {p:Prg} {x:Ty} {k:Int} (h:BN p x k=true):AU p x.name=k∧(Bf p x.name).length=x.args.length:=by
 unfold BN at h;rw[ej,decide_eq_true_eq,decide_eq_true_eq] at h;exact h
theorem VV {f:Ty→Ty} {s0:Sig} {q:Param} (h:q∈(CT f (BH s0)).params):∃ q0∈s0.params,q.type=f (ownF s0 q0.type):=by
 unfold CT BH at h;simp only[eh] at h;obtain ⟨_,⟨_,⟨q0,a,rfl⟩,rfl⟩,rfl⟩:=h;exact ⟨q0,by simpa using a,rfl⟩
section
variable {p:Prg} {R:Rnk p} (G:Gd p R)
include G
theorem Z3 {d:Dec} (hd:d∈p.decls):∀ v∈d.vars,nmOk v=true:=by
 have:=GU G.right hd;unfold Cd at this;simp only[ej,eL] at this;exact this.2.2.2.2.1
theorem Z4 {d:Dec} (hd:d∈p.decls):∀ v∈d.formals.map (·.name),nmOk v=true:=fun v hv=>by
 have:=GU G.right hd;unfold Cd at this;simp only[ej,eL] at this;obtain ⟨f,hf,rfl⟩:=eh.1 hv;have h2:=this.2.1 f hf;unfold DG at h2;rw[ej] at h2;exact h2.1
theorem VW {x:Ty} (hx:Inv R x) {s:Sig} (hs:s∈Bq p [] x) {ts:List Ty} (ht:ts.length=s.formals.length) (htb:TB R true s.name ts) :
  Inv R (AD (s.formals.map (·.name)) ts s.result)∧∀ q∈s.params,Inv R (AD (s.formals.map (·.name)) ts q.type):=by
 have A:=hx;rw[Inv.iff] at A;obtain ⟨d,g,v,J,O⟩:=Jz A.1;have N:=G.ty d g O;have T:x.args.length=d.formals.length:=by rw[A.2.1,P9 v]
 have u:=hx.tb;rcases VU hs with ⟨K,E⟩ | o
 ·
  have S:d.kind=2:=by rw[← VR v]; exact (HL K).1
  unfold spOf Eh at E;rw[if_pos K,v,eX] at E;obtain ⟨b,r,rfl⟩:=Hx _ E;have l:=N.sig S b r;have z:ts.length=b.formals.length:=by rw[ht]; simp[FW,CT,BH]
  have B:(FW d x.args b).formals.map (·.name)=Ez b.formals.length:=by
   unfold FW;rw[Oa,N9]
  rw[B];rw[← J] at u;have key:∀ t∈AP b,Wf p (d.formals.map (·.name)++b.formals.map (·.name)) t→(∀ e∈visE (scN false d.name (d.formals.map (·.name))++fmN true b.name b.formals) t,e∈siE (scN false d.name (d.formals.map (·.name))++fmN true b.name b.formals) b)→Inv R (AD (Ez b.formals.length) ts (AD (d.formals.map (·.name)) x.args (ownF b t))):=fun t F H c =>
   (VT G l (fun _ U=>by
    obtain ⟨f,Q,rfl⟩:=eh.1 U;exact N.zero f Q) (Z4 G g) (by rw[ei]; exact T) z u htb (fun i h=>Nj g (by simpa using h)) (fun i h=>QP g (.inl r) h) H (G.deep _ (abn g r F)) fun e w=>Kv g (by
     unfold rdE rsE;rw[if_neg (by omega)];exact eP _ (ez.2 ⟨b,r,c e w⟩))).1
  refine ⟨key b.result (YA b) l.res fun e c=>VQ c,fun q D=>?_⟩;obtain ⟨n,k,e0⟩:=VV D;rw[e0];exact key n.type (Um k) (l.par n k) fun e c=>Nk k c
 ·
  unfold Cc at o;split at o
  ·obtain ⟨j,L,C,rfl⟩:=HK _ o;unfold Hr at C;rw[ej,decide_eq_true_eq,decide_eq_true_eq] at C;obtain ⟨I,kn,_⟩:=Ri L C.1;have m:=dP L;have M:=G.me _ m I;have V:x.args.length=p.decls[j].vars.length:=by omega
   generalize p.decls[j]=e at *;have l:=M.sig;have z:ts.length=e.sig.formals.length:=by rw[ht]; simp[mSig,CT,BH]
   have B:(mSig x e).formals.map (·.name)=Ez e.sig.formals.length:=by
    unfold mSig;rw[Oa,N9]
   rw[B];rw[← kn] at u;have P:∀ i,i < e.vars.length→(⟨false,e.name,(i:Int)⟩:Nd)∈Bv p:=fun i h=>by
    rw[kn,← J];exact Nj g (by omega)
   have key:∀ t∈AP e.sig,Wf p (e.vars++e.sig.formals.map (·.name)) t→(∀ y∈visE (scN false e.name e.vars++fmN true e.sig.name e.sig.formals) t,y∈siE (scN false e.name e.vars++fmN true e.sig.name e.sig.formals) e.sig)→Inv R (AD (Ez e.sig.formals.length) ts (AD e.vars x.args (ownF e.sig t))):=fun t F H c =>
    (VT G l M.zero (Z3 G m) V z u htb P (fun i h=>QP m (.inr rfl) h) H (G.deep _ (Ul m I (.inl F))) fun y w=>Kv m (by
     unfold rdE rmE rmS;rw[if_pos I];exact eI _ (c y w))).1
   refine ⟨key e.sig.result (YA _) l.res fun y c=>VQ c,fun q D=>?_⟩;obtain ⟨n,k,e0⟩:=VV D;rw[e0];exact key n.type (Um k) (l.par n k) fun y c=>Nk k c
  ·cases o
end
def allE (p:Prg):List Ex:=AB p.main++exBR p.decls
theorem YB {p:Prg} {d:Dec} (hd:d∈p.decls) (h3:d.kind=3) {z:Ex} (hz:z∈AB d.body):z∈allE p:=by
 unfold allE exBR;refine eP _ (ez.2 ⟨d,hd,?_⟩);unfold exD;rw[if_pos h3];exact hz
theorem Lp (e:Ex):e∈AB e:=by rw[BC]; exact dY
theorem Va:∀ e:Ex,∀ x∈AB e,∀ y∈AB x,y∈AB e:=by
 refine Ex.ind fun e ih x a y c=>?_;rw[BC,BF] at a;rcases eq.1 a with rfl | a
 ·exact c
 ·obtain ⟨k,b,d⟩:=ez.1 a;rw[BC,BF];exact ea _ (ez.2 ⟨k,b,ih k b x d y c⟩)
theorem RP {e k:Ex} (h:k∈e.kids):k∈AB e:=by
 rw[BC,BF];exact ea _ (ez.2 ⟨k,h,Lp k⟩)
section
variable {p:Prg} {R:Rnk p}
def YD (p:Prg) (n:Str) (ts:List Ty):Prop:=∃ z∈allE p,z.kind=2∧z.name=n∧z.targs.length=ts.length
def GoodEx (R:Rnk p) (e:Ex):Prop:=∀ y∈AB e,((y.kind=3∨y.kind=5)→Inv R y.type)∧(y.kind=2→TB R true y.name y.targs∧YD p y.name y.targs)
theorem GoodEx.node {e x:Ex} (h:GoodEx R e) (hx:x∈AB e):GoodEx R x:=fun y hy=>h y (Va e x hx y hy)
variable (G:Gd p R)
include G
theorem YE:GoodEx R p.main:=by
 have d:∀ t∈Bo p.main,Br t≤R.S:=fun t j=>G.deep t (by
  unfold tyPr;exact eP _ j)
 intro y b;obtain ⟨f,g⟩:=G.main y b;refine ⟨fun a=>(f a).inv R _ (d _ ?_),fun a=>⟨fun i h=>?_,y,eI _ b,a,rfl,rfl⟩⟩
 ·refine ez.2 ⟨y,b,?_⟩;unfold CN;rw[if_pos a];exact eP _ (eg.2 rfl)
 ·have e:=dP h;have c:=d y.targs[i] (ez.2 ⟨y,b,eI _ e⟩);exact ⟨(g a _ e).inv R _ c,ef c (ia _ (iq _))⟩
theorem YF {d:Dec} (hd:d∈p.decls) (h3:d.kind=3) {x:Ty} (hx:Inv R x) (hn:d.name=x.name) {ts:List Ty} (ht:ts.length=d.sig.formals.length) (htb:TB R true d.sig.name ts) :
  GoodEx R (Dk (bdNs d) (x.args++ts) d.body)∧∀ q∈I3 d (x.args++ts),Inv R q.type:=by
 have c:=G.me d hd h3;have r:=hx;rw[Inv.iff] at r;obtain ⟨e,M,J,K,W⟩:=Jz r.1;have U:x.args.length=d.vars.length:=by rw[r.2.1,c.len,hn]
 have L:∀ i,i < d.vars.length→(⟨false,d.name,(i:Int)⟩:Nd)∈Bv p:=fun i h=>by
  rw[hn,← K];refine Nj M ?_;have:=P9 J;rw[← hn,] at this;rw[← this,← c.len];exact h
 have s:=hx.tb;rw[← hn] at s;have E:∀ v∈d.vars++d.sig.formals.map (·.name),AU p v=0:=fun v b=>by
  rcases eu.1 b with b | b
  ·exact c.zero v b
  ·obtain ⟨f,N,rfl⟩:=eh.1 b;exact c.sig.zero f N
 have b:=QO (R:=R) (dn:=d.name) (mn:=d.sig.name) c.sig.nodup E U (by rw[ei]; exact ht) s htb L (fun i h=>QP hd (.inr rfl) (by simpa using h));change ∀ v∈bdNs d,VarOk R (rmS d) (bdNs d) (x.args++ts) v at b;have u:∀ z∈AB d.body,∀ e∈rxE (rmS d) z,e∈rpE p:=fun z g y a=>Kv hd (by
  unfold rdE rmE;rw[if_pos h3];exact eP _ (ez.2 ⟨z,g,a⟩))
 have B:∀ t∈Bo d.body,Br t≤R.S:=fun t ht=>G.deep t (Ul hd h3 (.inr ht));refine ⟨fun y a=>?_,fun q D=>?_⟩
 ·rw[MB] at a;obtain ⟨z,g,rfl⟩:=eh.1 a;obtain ⟨F,w⟩:=G.body d hd h3 z g;rw[I0];refine ⟨fun m=>?_,fun m=>⟨fun i k=>?_,z,YB hd h3 g,m,rfl,by simp⟩⟩
  ·refine Ku b _ (F m) (B _ (ez.2 ⟨z,g,?_⟩)) fun y a=>u z g y (eI _ a);unfold CN;rw[if_pos (show z.kind=3∨z.kind=5 from m)];exact eP _ (eg.2 rfl)
  ·simp only[Ex.targs_mk] at k ⊢;rw[ei] at k;rw[fY];have n:=dP k;have A:=B z.targs[i] (ez.2 ⟨z,g,eI _ n⟩);refine ⟨Ku b _ (w m _ n) A fun y a=>u z g y (eP _ (Kt (i:=0) k (.inr a))),Yw b _ _ (w m _ n) A fun y a=>u z g y (eP _ (Kt (i:=0) k (.inl ?_)))⟩;rw[eN];exact a
 ·unfold I3 at D;obtain ⟨V,o,rfl⟩:=eh.1 D;rcases eq.1 o with rfl | o
  ·
   show Inv R (AD (bdNs d) (x.args++ts) (Ki d));have O:d.name∉bdNs d:=fun n=>r.1 (by rw[← hn]; exact E _ n);unfold Ki;rw[D9 (.inl O)];have P:AU p d.name≠0:=by rw[c.one]; decide
   have C:∀ (j:Nat) (l:j < d.vars.length),AD (bdNs d) (x.args++ts) (Cp d.vars[j])=.mk (x.args[j]'(by omega)).name (x.args[j]'(by omega)).args 0:=fun j l=>by
    have H:(bdNs d)[j]'(by unfold bdNs; rw[dQ]; omega)=d.vars[j]:=gd l;have I:(x.args++ts)[j]'(by rw[dQ]; omega)=x.args[j]'(by omega):=gd (by omega);have:=Hh (us:=x.args++ts) c.sig.nodup (j:=j) (by rw[dQ]; omega) (by rw[dQ]; omega);change look (bdNs d) (x.args++ts) ((bdNs d)[j]'(by unfold bdNs; rw[dQ]; omega))=_ at this;rw[H,I] at this;exact EU this
   refine .mk P (by rw[ei,ei]; exact c.len) (fun y a=>?_) fun i k=>?_
   ·rw[fB] at a;obtain ⟨v,T,rfl⟩:=eh.1 a;obtain ⟨j,l,rfl⟩:=eT.1 T;simp only[Function.comp];rw[C j l];have:=(s j (by omega)).1;rw[← Ty.eta (x.args[j]'(by omega))] at this;exact this.pos
   ·have l:i < d.vars.length:=by simpa using k
    rw[fY,fY,C i l,Ge,← D7];exact (s i (by omega)).2
  ·have Q:=Ul hd h3 (.inl (Um o));refine Ku b _ (c.sig.par V o) (G.deep _ Q) fun y a=>Kv hd ?_;unfold rdE rmE;rw[if_pos h3];exact eI _ (Nk o a)
end
theorem Oc {l:List Sig} {n:Str} {i:Nat} (h:CL l n=some i):∃ hi:i < l.length,l.getD i Bw=l[i]∧l[i].name=n:=by
 have hi:=Gn h;refine ⟨hi,?_,?_⟩
 ·rw[fl,dO hi]; rfl
 ·unfold CL at h;obtain ⟨_,a,_⟩:=eU.1 h;exact of_decide_eq_true a
section
variable {p:Prg} {R:Rnk p} (G:Gd p R)
include G
theorem abo {vars:List Param} (hvs:∀ q∈vars,Inv R q.type):∀ e:Ex,GoodEx R e→(inf (AN p vars) e).2.bad=false→Inv R (inf (AN p vars) e).1:=by
 refine Ex.ind fun e ih r h=>?_;obtain ⟨o,A⟩:=r e (Lp e);rw[PT] at h ⊢;unfold Fg at h ⊢;by_cases w:e.kind=1
 ·rw[if_pos w] at h ⊢;cases b:DR (AN p vars).vars e.name with
  | none=>rw[b] at h; exact (BQ h).elim
  | some u =>
   obtain ⟨q,k,_,rfl⟩:=GO b;exact hvs q k
 ·rw[if_neg w] at h ⊢;by_cases n:e.kind=3
  ·rw[if_pos n] at h ⊢;unfold litR at h ⊢;cases c:BR (AN p vars).p (AN p vars).env e.type with
   | some i=>rw[c] at h; exact (BQ h).elim
   | none =>
    rw[c] at h;simp only at h ⊢;split at h
    ·exact (BQ h).elim
    ·rename_i a;rw[if_neg a];split at h
     ·exact (BQ h).elim
     ·rename_i b;rw[if_neg b];exact o (.inl n)
  ·rw[if_neg n] at h ⊢;split at h
   ·exact (BQ h).elim
   ·rename_i I;rw[if_neg I];obtain ⟨z,j⟩:∃ L,e.kids=L:=⟨_,rfl⟩
    cases z with
    | nil=>rw[j] at h; exact (BQ h).elim
    | cons d M =>
     have t:d∈e.kids:=by rw[j]; exact dY
     have H:=ih d t (r.node (RP t));rw[j,eM] at h ⊢;simp only at h ⊢;unfold Nf at h ⊢;by_cases f:(kn (AN p vars) d).res.bad=true
     ·rw[if_pos f] at h;rw[f] at h;cases h
     ·rw[if_neg f] at h ⊢;have l:=H (fI.2 f);change Inv R (kn (AN p vars) d).ty at l;generalize (kn (AN p vars) d).ty=x at *;by_cases m:e.kind=2
      ·rw[if_pos m] at h ⊢;unfold Nc at h ⊢;cases g:CL (Bq (AN p vars).p (AN p vars).env x) e.name with
       | none=>rw[g] at h; exact (BQ h).elim
       | some i =>
        rw[g] at h;simp only at h ⊢;obtain ⟨C,B,F⟩:=Oc g;rw[B] at h ⊢;have E:(Bq (AN p vars).p (AN p vars).env x)[i]∈Bq p [] x:=dP C;generalize (Bq (AN p vars).p (AN p vars).env x)[i]=s at *;unfold Nb at h ⊢;split at h
        ·exact (BQ h).elim
        ·rename_i b;rw[if_neg b];split at h
         ·exact (BQ h).elim
         ·rename_i K;split at h
          ·exact (BQ h).elim
          ·rename_i J;split at h
           ·exact (BQ h).elim
           ·rename_i D;rw[if_neg D,(MN h).2];have v:=(A m).1;rw[← F] at v;exact (VW G l E (Decidable.not_not.1 b).symm v).1
      ·rw[if_neg m] at h ⊢;by_cases y:e.kind=4
       ·rw[if_pos y] at h ⊢;unfold PR at h ⊢;split at h
        ·exact (BQ h).elim
        ·rename_i a;rw[if_neg a];have a:GM (AN p vars) x=true:=by simpa using a
         unfold GM at a;rw[ej] at a;split at h
         ·rename_i u b;rw[(MN h).2];obtain ⟨q,k,_,rfl⟩:=GO b;exact VS G l (HL a.2).1 q k
         ·exact (BQ h).elim
       ·rw[if_neg y] at h ⊢;unfold PS at h ⊢;cases c:BR (AN p vars).p (AN p vars).env e.type with
        | some i=>rw[c] at h; exact (BQ h).elim
        | none =>
         rw[c] at h;simp only at h ⊢;split at h
         ·exact (BQ h).elim
         ·rename_i a;rw[if_neg a];exact o (.inr (by omega))
end
theorem Un {p:Prg} (hp:PrOk p):∀ (f:Nat) (s r:ISet),IOk s→GR p f s=some r→IOk r∧Fm r=false
 | 0,_,_,_,h=>by cases h
 | f + 1,s,r,hs,h=>by
  rw[FM] at h;split at h
  ·cases h
  ·split at h
   ·split at h
    ·cases h
    ·rename_i hl;cases h;exact ⟨OF hp hs,fI.2 hl⟩
   ·exact Un hp f _ r (OF hp hs) h
theorem abp {p:Prg} (hp:PrOk p):IOk (D2 p):=by
 have a:smCx (AN p []):=⟨hp.sm,⟨by simp[AN],fun _ h=>by simp[AN] at h⟩,by simp[AN],fun _ h=>by simp[AN] at h⟩
 exact HJ a _ _ IOk.zero (nodes_sm _ hp.sm.2)
theorem aah {p:Prg} (hp:PrOk p) {s:ISet} (h:Fy p=some s):IOk s∧Fm s=false:=Un hp _ _ s (abp hp) h
set_option maxRecDepth 100000 in
set_option maxHeartbeats 1000000 in
theorem Sn (p:Prg) (hp:okPr p) (hH:Yt p) (g d:Nat):ACalls E 3 [AZ p] [] g d (dB true) []:=by
 have O:=Ue p hp;refine Ax 56 Tryz.call3 Tryz.func3 ?_;simp only[go_sem];refine Aa fun _ Y=>Ac 2 fun q _=>?_;simp only[go_sem];refine Y (Aa fun _ a7=>Aa fun _ G=>Am fun _ _ _ _ e I=>Af 0 e ?_);simp only[go_sem];refine Ak e (LH _ _) ?_;refine Af 3 e ?_;simp only[go_sem];cases c:I6 p with
 | false =>
  refine Ak e (O _ _) ?_;refine Ad 2 e ?_;simp only[go_sem,c,ig,ii];refine I (G (Al (Aa fun _ a8=>Am fun _ _ _ _ B ae=>Af 0 B ?_)));simp only[go_sem];refine Ak B (LH _ _) ?_;refine Ad 1 B ?_;simp only[go_sem];refine ae (a8 (Ah (Ag ?_)));simp only[go_sem];exact Co.refl _
 | true =>
  have L:EH p≤600:=by
   unfold I6 at c;simp only[ej,decide_eq_true_eq] at c;exact c.1
  have Q:BY p=true:=by
   unfold I6 at c;simp only[ej,decide_eq_true_eq] at c;exact c.2.1
  obtain ⟨i,_⟩:=Ol p L;have h:=Qs p L;have P:=QL i h Q;have M:=TW p P (WR h) (fun x hx W=>P6 (N6 _ (P7 Q) x hx) W);have v:=Ys p i h;have hR:=WO p i h;rw[VM _ (AB p.main++exBR p.decls) (fun _=>by simp only[eu]; exact Or.comm),T6,← Ni] at v;have V:((1:Int)=0)=False:=eq_false (by decide);refine Ak e (O _ _) ?_;refine Ad 2 e ?_;simp only[go_sem,c,hG,Int.natCast_one,V];refine I (G (Aj (Ae (a7 (Aa fun _ H=>Am fun r N _ _ n J=>Af 1 n ?_)))));simp only[go_sem];cases t:Fy p with
  | none =>
   refine Ak n (M _ _) ?_;refine Ad 6 n ?_;simp only[go_sem,t];refine J (H (Aa fun _ _=>Aa fun _ a9=>?_));have a:r≠q:=Ar N 1 0 (by simp[go_sem]);refine Ac 7 fun S ak=>?_;simp only[go_sem];refine a9 (Al (Aa fun _ aa=>Ac 1 fun T al=>?_));simp only[go_sem];refine aa (Ah (Ag ?_));simp only[go_sem];exact Co.refl _
  | some s =>
   obtain ⟨hd,au⟩:=hH c s t;have w:=ir 500 (hgt p (kP p));have aj:=aah P t;obtain ⟨u,ap⟩:=aj;have ar:=I4 s (by have:=u.tl; omega) (by have:=u.cl; omega);refine Ak n (M _ _) ?_;refine Ad 6 n ?_;simp only[go_sem,t];refine J (H (Aa fun _ ab=>Aa fun _ D=>?_));have a:r≠q:=Ar N 1 0 (by simp[go_sem]);refine Am fun S ak _ _ o K=>Af 4 o ?_;simp only[go_sem,a];rcases w with w | w
   ·have y:((500:Int) < ((hgt p (kP p):Nat):Int))=True:=eq_true (by omega);refine Ak o (D6 p i h _ _) ?_;refine Ad 2 o ?_;simp only[go_sem,y];refine K (D (Al (Aa fun _ Z=>Ac 1 fun T al=>?_)));simp only[go_sem];refine Z (Ah (Ag ?_));simp only[go_sem];exact Co.refl _
   ·have y:((500:Int) < ((hgt p (kP p):Nat):Int))=False:=eq_false (by omega);refine Ak o (D6 p i h _ _) ?_;refine Ad 2 o ?_;simp only[go_sem,y];refine K (D (Aj (Ae (ab (Aa fun _ a0=>Am fun _ _ _ _ C af=>Af 1 C ?_)))));simp only[go_sem,a];refine Ak C (Sl p i h _ _) ?_;refine Ad 1 C ?_;simp only[go_sem];refine af (a0 (Aa fun _ a1=>Aa fun _ a2=>Ac 1 fun _ _=>?_));simp only[go_sem];refine a2 (Ai ?_);have aq:=(MD ap).1;have ay:=u.tl
    refine Ay (fun m R=>∃ k,k≤s.types.length∧m=s.types.length - k∧Le { env:=[(1,.ptr ⟨q,1,0⟩ 0),(3,.ptr ⟨r,3,0⟩ 0),(5,dN (hgt p (kP p))),(6,dN k)],σ:=[(⟨q,1,0⟩,.box 30 (prC p)),(⟨r,3,0⟩,.box 35 (isC s))] } R) s.types.length ?_ ?_
    ·refine ⟨0,dX _,rfl,Ao ?_⟩;simp only[go_sem,a,a.symm];all_goals first|trivial|omega
    ·rintro m R ⟨k,hk,rfl,j⟩;refine Az j ?_;clear j;refine Aa fun _ a3=>Aa fun _ F=>?_;by_cases l:k < s.types.length
     ·have ao:=getM (f:=AC) l;have z:=dP l;have aw:=hd _ z;have ai:=HN _ (u.ts _ z).ok (by have:=U8 (aq _ z); omega);generalize s.types[k]=X at *;have an:(((hgt p (kP p):Nat):Int) < ((Br X:Nat):Int))=False:=eq_false (by omega);refine Ac 5 fun U am=>?_;simp only[go_sem,l,a.symm];refine F (Al (Ae (a3 (Aa fun _ a4=>Ai (Aa fun _ a5=>Am fun _ _ _ _ A ac=>Af 5 A ?_)))));simp only[go_sem,ao,a.symm];refine Ak A (ai _ _) ?_;refine Ad 2 A ?_;simp only[go_sem,an];refine ac (a5 (Aj (Ae (a4 (Ac 3 fun _ _=>?_)))));simp only[go_sem];try simp (disch:=omega) only[Au]
      refine ⟨_,?_,k + 1,l,rfl,Ao ?_⟩
      ·omega
      simp only[go_sem,a,a.symm];all_goals first|trivial|omega
     ·have:k=s.types.length:=by omega
      subst this;have j:((Bg s:Int)≤ofR p)=True:=eq_true au;unfold ofR at j;refine Ac 5 fun U am=>?_;simp only[go_sem,l,a.symm];refine F (Aj (Aq (a1 (Aa fun _ a6=>AF 12 fun _ _ _ _ b ad=>Av 1 b ?_))));simp only[go_sem,a.symm];refine Aw b (ar _ _) ?_;refine Av 1 b ?_;simp only[go_sem,a];refine Aw b (v _ _) ?_;refine Av 3 b ?_;simp only[go_sem,j,a];refine Aw b (v _ _) ?_;refine Av 1 b ?_;simp only[go_sem,a];refine Aw b (hR _ _) ?_;refine Ap 2 b ?_;simp only[go_sem];refine Ad 1 b ?_;simp only[go_sem];refine ad (a6 (Ah (Ag ?_)));simp only[go_sem];exact Co.refl _
structure CInv {p:Prg} (R:Rnk p) (c:Cal):Prop where
 on:Inv R c.on
 tb:TB R true c.name c.targs
 in_:YD p c.name c.targs
structure SInv {p:Prg} (R:Rnk p) (s:ISet):Prop where
 ty:∀ t∈s.types,Inv R t
 ca:∀ c∈s.calls,CInv R c
theorem Z5 {p:Prg} {x:Ty} {m:Str} {i:Nat} (hm:CR p x m=some i):DP p x.name m=some i:=by
 unfold CR at hm;split at hm
 ·exact (Option.filter_eq_some_iff.1 hm).1
 ·cases hm
section
variable {p:Prg} {R:Rnk p}
theorem SInv.putT {s:ISet} (h:SInv R s) {x:Ty} (hx:Inv R x):SInv R (putT s x):=by
 unfold Go.Proofs.T.putT;split
 ·exact ⟨h.ty,h.ca⟩
 ·exact ⟨fun t a=>((Ju (cmp:=BK) s.types x).2 t a).elim (fun e=>e ▸ hx) (h.ty t),h.ca⟩
theorem SInv.putC {s:ISet} (h:SInv R s) {x:Cal} (hx:CInv R x):SInv R (putC s x):=by
 unfold Go.Proofs.T.putC;split
 ·exact ⟨h.ty,h.ca⟩
 ·exact ⟨h.ty,fun t a=>((Ju (cmp:=D8) s.calls x).2 t a).elim (fun e=>e ▸ hx) (h.ca t)⟩
theorem SInv.lrg {s:ISet} (h:SInv R s) (b:Bool):SInv R { s with large:=b }:=⟨h.ty,h.ca⟩
theorem Hi {α:Type} {f:ISet→α→ISet}:∀ (l:List α) (s:ISet),SInv R s→(∀ o a,a∈l→SInv R o→SInv R (f o a))→SInv R (l.foldl f s)
 | [],_,h,_=>h
 | a :: l,_,h,hf=>Hi l _ (hf _ a dY h) (fun o b hb ho=>hf o b (ea _ hb) ho)
variable (G:Gd p R)
include G
theorem YG {vars:List Param} (hvs:∀ q∈vars,Inv R q.type) {s:ISet} (h:SInv R s) {x:Ex} (hx:GoodEx R x):SInv R (need1 (AN p vars) s x):=by
 obtain ⟨f,c⟩:=hx x (Lp x);have a:SInv R (Dp s x):=by
  unfold Dp;split
  ·rename_i b;exact h.putT (f b)
  ·exact h
 unfold need1;split
 ·rename_i e;cases b:x.kids with
  | nil=>exact a
  | cons k r =>
   have j:k∈x.kids:=by rw[b]; exact dY
   have i:=abo G hvs k (hx.node (RP j))
   show SInv R (GP (Dp s x) x (inf (AN p vars) k));generalize Dp s x=S at *;generalize inf (AN p vars) k=q at *;unfold GP;split
   ·exact a.lrg _
   ·rename_i g;have d:=i (fI.2 g);exact ((a.lrg _).putT d).putC (x:=⟨_,x.name,x.targs⟩) ⟨d,(c e).1,(c e).2⟩
 ·exact a
theorem RQ {vars:List Param} (hvs:∀ q∈vars,Inv R q.type) {s:ISet} (h:SInv R s) {e:Ex} (he:GoodEx R e):SInv R (Ir (AN p vars) s e) :=
 Hi _ _ h fun _ _ hy ho=>YG G hvs ho (he.node hy)
omit G in
theorem Z6 {x:Ty} {s:Sig} (hs:s∈Bq p [] x) {d:Dec} (hd:GB p x s.name=some d):∃ i,∃ hi:i < p.decls.length,p.decls[i]=d∧d.kind=3∧d.name=x.name∧d.sig.name=s.name∧s.formals.length=d.sig.formals.length:=by
 unfold GB at hd;obtain ⟨i,e,a⟩:=fj.1 hd;obtain ⟨hi,l,kn,m,_,g,_⟩:=TR e;rw[dO hi] at a;have a:p.decls[i]=d:=by simpa using a
 have f:=Z5 e;subst a;refine ⟨i,hi,rfl,l,kn,m,?_⟩;rcases VU hs with ⟨a,_⟩ | b
 ·have n:=(HL g).1;have o:=(HL a).1;omega
 ·unfold Cc at b;rw[if_pos g] at b;obtain ⟨j,q,c,rfl⟩:=HK _ b;unfold Hr at c;rw[ej,decide_eq_true_eq,decide_eq_true_eq] at c;have k:(mSig x p.decls[j]).name=p.decls[j].sig.name:=rfl;rw[k,c.1] at f;have h:j=i:=by simpa using f
  subst h;simp[mSig,CT,BH]
theorem abP {x:Ty} (hx:Inv R x) {s:Sig} (hs:s∈Bq p [] x) {c:Cal} (hn:s.name=c.name) (hl:s.formals.length=c.targs.length) (htb:TB R true c.name c.targs) {o:ISet} (ho:SInv R o):SInv R (bdOf p o x c):=by
 unfold bdOf;cases a:GB p x c.name with
 | none=>exact ho
 | some d =>
  simp only;rw[← hn] at a htb;obtain ⟨i,f,rfl,g,kn,h,j⟩:=Z6 hs a;rw[← h] at htb;obtain ⟨b,e⟩:=YF G (dP f) g hx kn (by omega) htb;exact RQ G e ho b
theorem Vb {x:Ty} (hx:Inv R x) {c:Cal} (hc:CInv R c) {o:ISet} (ho:SInv R o):SInv R (CP p x (Bq p [] x) o c):=by
 unfold CP;cases f:CL (Bq p [] x) c.name with
 | none=>exact ho
 | some n =>
  simp only;obtain ⟨i,g,d⟩:=Oc f;rw[g];have b:(Bq p [] x)[n]∈Bq p [] x:=dP i;generalize (Bq p [] x)[n]=s at *;split
  ·exact ho
  ·rename_i a;have a:=Decidable.not_not.1 a;split
   ·have e:=hc.tb;rw[← d] at e;obtain ⟨k,l⟩:=VW G hx b a.symm e;unfold FZ;refine abP G hx b d a hc.tb (SInv.putT (Hi _ _ ho fun o q j h=>h.putT (l q j)) k)
   ·exact ho
theorem YH {cs:List Cal} (hcs:∀ c∈cs,CInv R c) {x:Ty} (hx:Inv R x) {o:ISet} (ho:SInv R o):SInv R (FL p cs o x):=by
 unfold FL;refine Hi _ _ ?_ fun o c a h=>Vb G hx (hcs c a) h;unfold GQ;split
 ·rename_i d;exact Hi _ _ ho fun o f b h=>h.putT (VS G hx (HL d).1 f b)
 ·exact ho
theorem VX {s:ISet} (h:SInv R s):SInv R (Eb p s):=Hi _ _ h fun _ _ hx ho=>YH G h.ca (h.ty _ hx) ho
theorem Uo:∀ (f:Nat) (s r:ISet),SInv R s→GR p f s=some r→SInv R r
 | 0,_,_,_,h=>by cases h
 | f + 1,s,r,hs,h=>by
  rw[FM] at h;split at h
  ·cases h
  ·split at h
   ·split at h
    ·cases h
    ·cases h;exact VX G hs
   ·exact Uo f _ r (VX G hs) h
theorem abq {s:ISet} (h:Fy p=some s):SInv R s:=Uo G _ _ s (RQ G (vars:=[]) (fun _ hq=>nomatch hq) ⟨fun _ ht=>(by simp[FN] at ht),fun _ hc=>(by simp[FN] at hc)⟩ (YE G)) h
end

end Go.Proofs.T
