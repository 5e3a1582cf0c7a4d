/- A part of the proof: ZAT. -/
import Derived.Test.YtnkpcgpmgkaakaaGreatZAS
namespace Go.Ab.Kept
open Go Go.Ab Go.RowKit
structure TE where
 v:D
 nw:Sto
 dead:List Nm
 kept:Sto
def TStep (E:Ctx) (ops:List Oper) (M:List Nat) (g:Nat) (σ0:Sto) (i:Nat) (o:Oper) (σ:Sto) (env:List (Nat × D)) (p:TE):Prop :=
  (∀ q∈p.nw,q.1.g=g∧o.dst=some q.1.i) ∧
  ((Dt ops env o=some true∧QOp E g o (ev E env) (get σ0) p.v p.nw∧p.dead=[]∧p.kept=[])∨(Dt ops env o=some false∧p.v=.val undef∧p.nw=[]∧p.dead=[]∧p.kept=[]) ∨
   (Dt ops env o=some true∧∃ σs:Sto,p.dead=σs.map (·.1)∧TOp E g o (ev E env) (get σs) p.v (get (p.kept++p.nw))∧(∀ r∈p.kept,r.1∈p.dead)∧(∀ q∈σs,get σ q.1=some q.2)∧(∀ m∈p.dead,m.g=g)∧Mc M (ops.map (·.dst)) i p.dead=true))
inductive TTrace (E:Ctx) (ops:List Oper) (M:List Nat) (g:Nat) (σ0:Sto):Nat→Sto→List Oper→List (Nat × D)→List TE→List (Nat × D)→Prop
 | nil {i:Nat} {σ:Sto} {env:List (Nat × D)}:TTrace E ops M g σ0 i σ [] env [] env
 | cons {i:Nat} {σ:Sto} {o:Oper} {r:List Oper} {env env' : List (Nat × D)} {p:TE} {tr:List TE}:TStep E ops M g σ0 i o σ env p→TTrace E ops M g σ0 (i + 1) (p.nw++dels σ p.dead) r (putE env o.dst p.v) tr env' →
   TTrace E ops M g σ0 i σ (o :: r) env (p :: tr) env'
def accT:List TE→Sto→Sto
 | [],σ=>σ
 | p :: r,σ=>accT r (p.nw++dels σ p.dead)
def Ng:List TE→Sto→Sto
 | [],kp=>kp
 | p :: r,kp=>Ng r (p.kept++kp)
def QRunT (E:Ctx) (ops:List Oper) (M:List Nat) (g:Nat) (σ0:Sto) (i:Nat) (K:St→Prop) (kp:Sto) (l:List Oper) (st:St):Prop :=
 ∃ tr env',TTrace E ops M g σ0 i st.σ l st.env tr env'∧K ⟨env',Ng tr kp++accT tr st.σ⟩
section
variable {E:Ctx} {N:Nat} {ops:List Oper} {M:List Nat} {g i0:Nat} {σ0:Sto} {st:St}
theorem qrunT_nil {K:St→Prop} {kp:Sto} (h:K { env:=st.env,σ:=kp++st.σ }):QRunT E ops M g σ0 i0 K kp [] st:=⟨[],st.env,.nil,h⟩
theorem qrunT_cons {K:St→Prop} {kp:Sto} {o:Oper} {r:List Oper} {p:TE} (hs:TStep E ops M g σ0 i0 o st.σ st.env p) (h:QRunT E ops M g σ0 (i0 + 1) K (p.kept++kp) r { env:=putE st.env o.dst p.v,σ:=p.nw++dels st.σ p.dead }):QRunT E ops M g σ0 i0 K kp (o :: r) st :=
 let ⟨tr,env',h1,h2⟩:=h
 ⟨p :: tr,env',.cons hs h1,h2⟩
theorem TTrace.length {l:List Oper} {σ:Sto} {env env' : List (Nat × D)} {tr:List TE} (h:TTrace E ops M g σ0 i0 σ l env tr env'):tr.length=l.length:=by
 induction h with
 | nil=>rfl
 | cons _ _ ih=>simp[ih]
theorem TTrace.split {l:List Oper} {σ:Sto} {env env' : List (Nat × D)} {tr:List TE} (h:TTrace E ops M g σ0 i0 σ l env tr env') :
  ∀ (i:Nat) o,l[i]?=some o→∃ envi p,TTrace E ops M g σ0 i0 σ (l.take i) env (tr.take i) envi∧tr[i]?=some p∧TStep E ops M g σ0 (i0 + i) o (accT (tr.take i) σ) envi p:=by
 induction h with
 | nil=>intro i o h; simp at h
 | cons c _ ih =>
  intro i o b;cases i with
  | zero=>simp only[ey,Option.some.injEq] at b; subst b; exact ⟨_,_,.nil,rfl,c⟩
  | succ i =>
   obtain ⟨envi,p,d,e,f⟩:=ih i o (by simpa using b);refine ⟨envi,p,.cons c d,e,?_⟩;rw[show ∀ a:Nat,a + (i + 1)=a + 1 + i by omega];exact f
theorem TTrace.env {l:List Oper} {σ:Sto} {env env' : List (Nat × D)} {tr:List TE} (h:TTrace E ops M g σ0 i0 σ l env tr env') (t:Nat) :
  (∃ (j:Nat) (o:Oper) (p:TE),l[j]?=some o∧o.dst=some t∧tr[j]?=some p∧lk env' t=some p.v)∨((∀ (j:Nat) o,l[j]?=some o→o.dst≠some t)∧lk env' t=lk env t):=by
 induction h with
 | nil=>exact .inr ⟨fun j o h=>by simp at h,rfl⟩
 | cons u _ ih =>
  rename_i i σ o r env env' p tr _;rcases ih with ⟨j,k,s,c,a,m,n⟩ | ⟨c,a⟩
  ·exact .inl ⟨j + 1,k,s,by simpa using c,a,by simpa using m,n⟩
  ·by_cases b:o.dst=some t
   ·refine .inl ⟨0,o,p,rfl,b,rfl,?_⟩;rw[a,b];simp[putE,lk]
   ·refine .inr ⟨fun j k f=>?_,?_⟩
    ·cases j with
     | zero=>simp only[ey,Option.some.injEq] at f; subst f; exact b
     | succ j=>exact c j k (by simpa using f)
    ·rw[a];cases q:o.dst with
     | none=>rfl
     | some d =>
      simp only[putE,lk];rw[if_neg (fun e=>b (by rw[q,e]))]
def kappT (L:Nat→Bool):Nat→List TE→Kp→Kp
 | _,[],κ=>κ
 | k,p :: r,κ=>kappT L (k + 1) r (if L k then Kp.or (get p.nw) (minus κ p.dead) else κ)
theorem kappT_congr {L L' : Nat→Bool}:∀ (k:Nat) (tr:List TE) (κ:Kp),(∀ j,k≤j→L j=L' j)→kappT L k tr κ=kappT L' k tr κ
 | _,[],_,_=>rfl
 | k,_ :: r,κ,h=>by
  simp only[kappT,h k (ec _)];exact kappT_congr (k + 1) r _ fun j _=>h j (by omega)
theorem kappT_in (L:Nat→Bool) (a:Kp) (ms:List Nm):∀ (k:Nat) (tr:List TE) (κ:Kp),
  (∀ (j:Nat) p,tr[j]?=some p→L (k + j)=true→Dis a (get p.nw)∧(∀ n,a n≠none→n∉p.dead)∧∀ n∈ms,get p.nw n=none)→kappT L k tr (Kp.or a (minus κ ms))=Kp.or a (minus (kappT L k tr κ) ms)
 | _,[],_,_=>rfl
 | k,p :: r,κ,h=>by
  simp only[kappT];have ih:=fun κ'=>kappT_in L a ms (k + 1) r κ' (fun j q hj hL=>h (j + 1) q (by simpa using hj) (by rw[show k + (j + 1)=k + 1 + j by omega]; exact hL));split
  ·rename_i hL;obtain ⟨h1,h2,h3⟩:=h 0 p rfl (by simpa using hL);rw[← ih]
   congr 1
   funext n
   simp only[Kp.or,minus];rcases h1 n with e | e
   ·simp only[e,fM];by_cases hm:n∈ms
    ·simp[hm,h3 n hm]
    ·simp[hm]
   ·simp only[e,fM];by_cases hd:n∈p.dead
    ·have:a n=none:=by
      cases b:a n with
      | none=>rfl
      | some y=>exact absurd hd (h2 n (by simp[b]))
     simp[hd,this]
    ·simp[hd]
  ·exact ih κ
theorem kappT_put {L L' : Nat→Bool} {i:Nat} (hi:L i=false) (hi' : L' i=true) (ho:∀ j,j≠i→L' j=L j):∀ (k:Nat) (tr:List TE) (κ:Kp) (p:TE),k≤i→tr[i - k]?=some p →
  (∀ (j:Nat) q,tr[j]?=some q→i < k + j→L (k + j)=true→Dis (get p.nw) (get q.nw)∧(∀ n,get p.nw n≠none→n∉q.dead)∧∀ n∈p.dead,get q.nw n=none)→kappT L' k tr κ=Kp.or (get p.nw) (minus (kappT L k tr κ) p.dead)
 | k,[],κ,p,_,h,_=>by simp at h
 | k,q :: r,κ,p,hk,h,hd=>by
  simp only[kappT];by_cases he:k=i
  ·subst he;simp only[gJ,ey,Option.some.injEq] at h;subst h;rw[hi,hi'];simp only[if_true,fb,if_false];rw[kappT_congr (L':=L) (k + 1) r _ fun j hj=>ho j (by omega)];exact kappT_in L _ _ (k + 1) r κ fun j x hx hL=>hd (j + 1) x (by simpa using hx) (by omega) (by rw[show k + (j + 1)=k + 1 + j by omega]; exact hL)
  ·rw[ho k he];rw[show i - k=(i - (k + 1)) + 1 by omega,fK] at h;exact kappT_put hi hi' ho (k + 1) r _ p (by omega) h (fun j x hj _ hL=>hd (j + 1) x (by simpa using hj) (by omega) (by rw[show k + (j + 1)=k + 1 + j by omega]; exact hL))
theorem kappT_get {L:Nat→Bool} {m:Nm} {ob:Ob}:∀ (k:Nat) (tr:List TE) (κ:Kp),(∀ (j:Nat) p,tr[j]?=some p→L (k + j)=true→m∉p.dead) →
  (∀ (j:Nat) p,tr[j]?=some p→L (k + j)=true→get p.nw m=none∨get p.nw m=some ob)→(κ m=some ob∨∃ (j:Nat) (p:TE),tr[j]?=some p∧L (k + j)=true∧get p.nw m=some ob)→kappT L k tr κ m=some ob
 | _,[],_,_,_,h=>by
  rcases h with h | ⟨j,p,h,_⟩
  ·exact h
  ·simp at h
 | k,p :: r,κ,h1,h2,h3=>by
  simp only[kappT];refine kappT_get (k + 1) r _ (fun j q hj hL=>h1 (j + 1) q (by simpa using hj) (by rw[show k + (j + 1)=k + 1 + j by omega]; exact hL)) (fun j q hj hL=>h2 (j + 1) q (by simpa using hj) (by rw[show k + (j + 1)=k + 1 + j by omega]; exact hL)) ?_;rcases h3 with h3 | ⟨j,q,hj,hL,hq⟩
  ·left;split
   ·rename_i hL;have a1:=h1 0 p rfl (by simpa using hL);rcases h2 0 p rfl (by simpa using hL) with a2 | a2
    ·simp[Kp.or,a2,minus,a1,h3]
    ·simp[Kp.or,a2]
   ·exact h3
  ·cases j with
   | zero =>
    left;simp only[ey,Option.some.injEq] at hj;subst hj;rw[if_pos (by simpa using hL)];simp[Kp.or,hq]
   | succ j=>exact .inr ⟨j,q,by simpa using hj,by rw[show k + 1 + j=k + (j + 1) by omega]; exact hL,hq⟩
theorem kappT_old {L:Nat→Bool} {n:Nm}:∀ (k:Nat) (tr:List TE) (κ:Kp),(∀ p∈tr,get p.nw n=none∧n∉p.dead)→kappT L k tr κ n=κ n
 | _,[],_,_=>rfl
 | k,p :: r,κ,h=>by
  simp only[kappT];rw[kappT_old (k + 1) r _ fun p hp=>h p (ea _ hp)];obtain ⟨h1,h2⟩:=h p dY;split
  ·simp[Kp.or,h1,minus,h2]
  ·rfl
theorem kappT_all {L:Nat→Bool}:∀ (k:Nat) (tr:List TE) (σ:Sto),(∀ j,k≤j→j < k + tr.length→L j=true)→kappT L k tr (get σ)=get (accT tr σ)
 | _,[],_,_=>rfl
 | k,p :: r,σ,h=>by
  simp only[kappT,accT];rw[h k (ec _) (by simp),if_pos rfl,← Db,← Bj];exact kappT_all (k + 1) r _ fun j _ _=>h j (by omega) (by simp; omega)
theorem kappT_none {L:Nat→Bool}:∀ (k:Nat) (tr:List TE) (κ:Kp),(∀ j,L j=false)→kappT L k tr κ=κ
 | _,[],_,_=>rfl
 | k,p :: r,κ,h=>by
  simp only[kappT];rw[h k];exact kappT_none (k + 1) r _ h
theorem accT_some {m:Nm} {ob:Ob}:∀ (tr:List TE) (σ:Sto),get (accT tr σ) m=some ob→get σ m=some ob∨∃ (j:Nat) (p:TE),tr[j]?=some p∧get p.nw m=some ob
 | [],σ,h=>.inl h
 | p :: r,σ,h=>by
  rcases accT_some r _ h with h | ⟨j,q,h1,h2⟩
  ·rcases Md h with h | ⟨_,h⟩
   ·exact .inr ⟨0,p,rfl,h⟩
   ·rw[Db,minus] at h;split at h
    ·cases h
    ·exact .inl h
  ·exact .inr ⟨j + 1,q,by simpa using h1,h2⟩
theorem accT_gone {m:Nm}:∀ (tr:List TE) (σ:Sto),get σ m=none→(∀ p∈tr,get p.nw m=none)→get (accT tr σ) m=none
 | [],_,h,_=>h
 | p :: r,σ,h,hn=>by
  refine accT_gone r _ ?_ fun q hq=>hn q (ea _ hq);rw[Bj,Kp.or,hn p dY,Db,minus,h];simp
theorem accT_dead {m:Nm}:∀ (tr:List TE) (σ:Sto) (k:Nat) (p:TE),tr[k]?=some p→m∈p.dead→(∀ (j:Nat) q,k≤j→tr[j]?=some q→get q.nw m=none)→get (accT tr σ) m=none
 | [],_,_,_,h,_,_=>by simp at h
 | q :: r,σ,0,p,h,hm,hn=>by
  simp only[ey,Option.some.injEq] at h;subst h;refine accT_gone r _ ?_ fun x hx=>?_
  ·rw[Bj,Kp.or,hn 0 q (ec _) rfl,Db,minus,if_pos hm]
   rfl
  ·obtain ⟨j,hj⟩:=fg.1 hx;exact hn (j + 1) x (by omega) (by simpa using hj)
 | q :: r,σ,k + 1,p,h,hm,hn=>accT_dead r _ k p (by simpa using h) hm fun j x _ hx=>hn (j + 1) x (by omega) (by simpa using hx)
def Dh (L:Nat→Bool):Nat→List TE→Kp
 | _,[]=>fun _=>none
 | k,p :: r=>Kp.or (if L k then get p.kept else fun _=>none) (Dh L (k + 1) r)
theorem N0 {L L' : Nat→Bool}:∀ (k:Nat) (tr:List TE),(∀ j,k≤j→L j=L' j)→Dh L k tr=Dh L' k tr
 | _,[],_=>rfl
 | k,_ :: r,h=>by
  simp only[Dh,h k (ec _)];rw[N0 (k + 1) r fun j _=>h j (by omega)]
theorem FK {L:Nat→Bool} {n:Nm} {x:Ob}:∀ (k:Nat) (tr:List TE),Dh L k tr n=some x→∃ (j:Nat) (p:TE),tr[j]?=some p∧L (k + j)=true∧get p.kept n≠none
 | _,[],h=>by simp[Dh] at h
 | k,p :: r,h=>by
  simp only[Dh,Kp.or] at h;cases hL:L k with
  | false =>
   rw[hL] at h;simp only[fb,if_false,fM] at h;obtain ⟨j,q,h1,h2,h3⟩:=FK (k + 1) r h;exact ⟨j + 1,q,by simpa using h1,by rw[show k + (j + 1)=k + 1 + j by omega]; exact h2,h3⟩
  | true =>
   rw[hL] at h;simp only[if_true] at h;cases hg:get p.kept n with
   | some y=>exact ⟨0,p,rfl,by simpa using hL,by simp[hg]⟩
   | none =>
    rw[hg] at h;simp only[fM] at h;obtain ⟨j,q,h1,h2,h3⟩:=FK (k + 1) r h;exact ⟨j + 1,q,by simpa using h1,by rw[show k + (j + 1)=k + 1 + j by omega]; exact h2,h3⟩
theorem Ry {L L' : Nat→Bool} {i:Nat} (hi:L i=false) (hi' : L' i=true) (ho:∀ j,j≠i→L' j=L j):∀ (k:Nat) (tr:List TE) (p:TE),k≤i→tr[i - k]?=some p →
  (∀ (j:Nat) q n,tr[j]?=some q→k + j≠i→get p.kept n≠none→get q.kept n=none)→Dh L' k tr=Kp.or (get p.kept) (Dh L k tr)
 | k,[],p,_,h,_=>by simp at h
 | k,q :: r,p,hk,h,hd=>by
  simp only[Dh];by_cases he:k=i
  ·subst he;simp only[gJ,ey,Option.some.injEq] at h;subst h;rw[hi,hi',N0 (L':=L) (k + 1) r fun j _=>ho j (by omega)]
   funext n
   simp[Kp.or]
  ·rw[ho k he];rw[show i - k=(i - (k + 1)) + 1 by omega,fK] at h;rw[Ry hi hi' ho (k + 1) r p (by omega) h (fun j x n hx _ hn=>hd (j + 1) x n (by simpa using hx) (by omega) hn)]
   funext n
   simp only[Kp.or];cases hp:get p.kept n with
   | none=>simp
   | some y =>
    have:=hd 0 q n rfl (by simpa using he) (by simp[hp]);split <;> simp[this]
theorem PV {L:Nat→Bool}:∀ (k:Nat) (tr:List TE),(∀ j,L j=false)→Dh L k tr=fun _=>none
 | _,[],_=>rfl
 | k,p :: r,h=>by
  simp only[Dh,h k,PV (k + 1) r h]
  rfl
theorem RA {L:Nat→Bool}:∀ (k:Nat) (tr:List TE) (kp:Sto),(∀ j,k≤j→j < k + tr.length→L j=true)→(∀ (i j:Nat) (p q:TE) n,tr[i]?=some p→tr[j]?=some q→i≠j→get p.kept n≠none→get q.kept n=none) →
  (∀ (i:Nat) (p:TE) n,tr[i]?=some p→get p.kept n≠none→get kp n=none)→Kp.or (Dh L k tr) (get kp)=get (Ng tr kp)
 | _,[],kp,_,_,_=>rfl
 | k,p :: r,kp,h,hd,h0=>by
  simp only[Dh,Ng];rw[← RA (k + 1) r (p.kept++kp) (fun j h1 _=>h j (by omega) (by simp; omega)) (fun i j x y n hx hy _ hn=>hd (i + 1) (j + 1) x y n (by simpa using hx) (by simpa using hy) (by omega) hn) (fun i x n hx hn=>by
   rw[Bj,Kp.or,hd (i + 1) 0 x p n (by simpa using hx) rfl (by omega) hn,h0 (i + 1) x n (by simpa using hx) hn]
   rfl)]
  rw[h k (ec _) (by simp),Bj]
  funext n
  simp only[Kp.or,if_true];cases hp:get p.kept n with
  | none=>simp
  | some y =>
   cases hk:Dh L (k + 1) r n with
   | none=>simp
   | some z =>
    obtain ⟨j,x,h1,_,h3⟩:=FK (k + 1) r hk;exact absurd (hd 0 (j + 1) p x n rfl (by simpa using h1) (by omega) (by simp[hp])) h3
def tot (L:Nat→Bool) (tr:List TE) (κ:Kp):Kp:=Kp.or (Dh L 0 tr) (kappT L 0 tr κ)
end
section
variable {E:Ctx} {N:Nat} {l:List Oper} {g:Nat} {st:St}
structure InvT (w0:World) (E:Ctx) (N:Nat) (l:List Oper) (g:Nat) (st:St) (tr:List TE) (G1:Gh) (w1:World) (L:Nat→Bool) (G:Gh) (w:World) (a:Act):Prop where
 size:a.tmps.size=N
 defers:Marks G w a.defers
 wf:WF w0 G w
 old:∀ t d,lk st.env t=some d→(∀ (j:Nat) o,L j=true→l[j]?=some o→o.dst≠some t)→t < N∧V G w (a.tmps.getD t undef) d
 new:∀ (j:Nat) o t p,L j=true→l[j]?=some o→o.dst=some t→tr[j]?=some p→V G w (a.tmps.getD t undef) p.v
 objs:Objs w0 G w (tot L tr (get st.σ))
 fresh:g < G.top∧∀ (j:Nat) o d,L j=false→l[j]?=some o→o.dst=some d→∀ q,G.ρ ⟨g,d,q⟩=none
 step:Step (fun n=>n.g=g) G1 w1 (get st.σ) G w (tot L tr (get st.σ))
 down:Down l (fun i=>L i=true)
theorem Yh {nq:Nat} {tr:List TE} {env' : List (Nat × D)} (hnd:(l.filterMap (·.dst)).Nodup) (htr:TTrace E l (masks l []) g st.σ 0 st.σ (l.take nq) st.env tr env') (hσg:∀ i j,get st.σ ⟨g,i,j⟩=none) :
  ∀ (i j:Nat) (p q:TE) n,tr[i]?=some p→tr[j]?=some q→i≠j→get p.kept n≠none→get q.kept n=none:=by
 have ab:=htr.length
 -- F of different operations' new things are different
 have F:∀ (j:Nat) p,tr[j]?=some p→∀ m,get p.nw m≠none→m.g=g∧∃ u,l[j]?=some u∧u.dst=some m.i:=by
  intro j p a m c;have A:j < (l.take nq).length:=by have:=(dW.1 a).1; omega
  have w:(l.take nq)[j]?=some (l.take nq)[j]:=dO A;obtain ⟨_,s,_,o,b,_⟩:=htr.split j _ w;rw[a] at o;cases o;have W : l[j]?=some (l.take nq)[j]:=by
   rw[eb] at w;split at w
   ·exact w
   ·cases w
  cases e:get p.nw m with
  | none=>exact absurd e c
  | some y=>exact ⟨(b _ (AQ e)).1,_,W,(b _ (AQ e)).2⟩
 have a4:∀ (j k:Nat) p q m,tr[j]?=some p→tr[k]?=some q→get p.nw m≠none→get q.nw m≠none→j=k:=by
  intro j k p q m a t d f;obtain ⟨_,o1,q1,q2⟩:=F j p a m d;obtain ⟨_,o2,q3,q4⟩:=F k q t m f;exact Cf hnd j k o1 o2 _ q1 q3 q2 q4
 have G:∀ (k:Nat) p m,tr[k]?=some p→m∈p.dead→m.g=g∧(∃ P,get (accT (tr.take k) st.σ) m=some P)∧(∃ (j:Nat) (s : TE),j < k∧tr[j]?=some s∧get s.nw m≠none)∧∀ (j:Nat) u,l[j]?=some u→u.dst=some m.i→bit (masks l []) k j=true:=by
  intro k p m a c;have B:k < (l.take nq).length:=by have:=(dW.1 a).1; omega
  obtain ⟨_,s,_,o,_,b⟩:=htr.split k _ (dO B);rw[a] at o;cases o;rcases b with ⟨_,_,b,_⟩ | ⟨_,_,_,b,_⟩ | ⟨_,σs,b,_,_,N,Z,k6⟩
  ·rw[b] at c; cases c
  ·rw[b] at c; cases c
  ·have e:=Z m c;have I:=c;rw[b] at I;obtain ⟨q,L,rfl⟩:=eh.1 I;refine ⟨e,⟨q.2,N q L⟩,?_,fun j u H R=>?_⟩
   ·rcases accT_some _ _ (N q L) with h | ⟨j,s,d,f⟩
    ·obtain ⟨⟨ng,ni,nj⟩,qo⟩:=q;have S : ng=g:=e;subst S;rw[hσg] at h; cases h
    ·rw[eb] at d;split at d
     ·rename_i v; exact ⟨j,s,v,d,by rw[f]; simp⟩
     ·cases d
   ·have M:=eL.1 k6 q.1 c;have A:=(dW.1 H).1;have r:=eL.1 M j (fE.2 (by simpa using A));simp only[eK,H,eH,Option.join_some,R,beq_self_eq_true,fQ,fL,eN] at r;exact r
 have Q : ∀ (j k:Nat) p q m,j < k→tr[j]?=some p→tr[k]?=some q→m∈p.dead→m∈q.dead→False:=by
  intro j k p q m v a t d f;obtain ⟨_,_,⟨Y,p0,aa,X,U⟩,_⟩:=G j p m a d;obtain ⟨_,⟨P,J⟩,_,_⟩:=G k q m t f;have:=accT_dead (m:=m) (tr.take k) st.σ j p (by rw[eb,if_pos v]; exact a) d fun x y M r=>by
   rw[eb] at r;split at r
   ·cases C:get y.nw m with
    | none=>rfl
    | some z=>exact absurd (a4 Y x p0 y m X r U (by simp[C])) (by omega)
   ·cases r
  rw[this] at J; cases J
 have twice:∀ (j k:Nat) p q m,j≠k→tr[j]?=some p→tr[k]?=some q→m∈p.dead→m∉q.dead:=by
  intro j k p q m v a t d f;rcases Nat.lt_or_gt_of_ne v with h | h
  ·exact Q j k p q m h a t d f
  ·exact Q k j q p m h t a f d
 have O:∀ (k:Nat) p m,tr[k]?=some p→get p.kept m≠none→m∈p.dead:=by
  intro k p m a c;have B:k < (l.take nq).length:=by have:=(dW.1 a).1; omega
  obtain ⟨_,s,_,o,_,b⟩:=htr.split k _ (dO B);rw[a] at o;cases o;rcases b with ⟨_,_,_,b⟩ | ⟨_,_,_,_,b⟩ | ⟨_,σs,_,_,b,_⟩
  ·rw[b] at c; exact absurd rfl c
  ·rw[b] at c; exact absurd rfl c
  ·cases e:get p.kept m with
   | none=>exact absurd e c
   | some y=>exact b _ (AQ e)
 intro i j p q n a K V T;cases C:get q.kept n with
 | none=>rfl
 | some z=>exact absurd (O j q n K (by simp[C])) (twice i j p q n V a K (O i p n a T))
theorem invT_step {w0:World} (hA:E.A w0) {nq:Nat} (hok:Dg N l nq=true) {tr:List TE} {env' : List (Nat × D)} (htr:TTrace E l (masks l []) g st.σ 0 st.σ (l.take nq) st.env tr env') (hσg:∀ i j,get st.σ ⟨g,i,j⟩=none)
  {G1:Gh} {w1:World} {L:Nat→Bool} {G:Gh} {w:World} {a:Act} (hI:InvT w0 E N l g st tr G1 w1 L G w a) {i:Nat} {o:Oper} (hi:l[i]?=some o) (hin:i < nq) (hL:L i=false) (hready:∀ e∈o.after,Region.binds .any e=true→L e.on=true)
  {L' : Nat→Bool} (hL' : L' i=true) (hLo:∀ j,j≠i→L' j=L j) {Q' : Exit→Act→World→Prop} {K:Act→World→Prop} (hK:∀ G' w' a',InvT w0 E N l g st tr G1 w1 L' G' w' a'→K a' w'):∀ r,wpOpIn (Fr r) 0 E.P l.toArray Q' i K a w:=by
 intro rd;simp only[Dg,ej] at hok;obtain ⟨⟨⟨hd,hE⟩,br⟩,_⟩:=hok;obtain ⟨aO,b1⟩:=Cq hd;have aN:=BX br i o hi;simp only[eN] at aN;have hq:(l.take nq)[i]?=some o:=by rw[eb,if_pos hin]; exact hi
 obtain ⟨aG,⟨v,nw,a8,ak⟩,bw,U,bH,bu⟩:=htr.split i o hq
 -- a temporary that the operation looks at holds what it did in the order of the text
 have aC:∀ t d,t∈looks l o→lk aG t=some d→t < a.tmps.size∧V G w (a.tmps.getD t undef) d:=by
  intro t d ht hl;rw[hI.size];rcases bw.env t with ⟨j,F,O,k1,S,H,k4⟩ | ⟨k1,S⟩
  ·rw[k4] at hl;cases hl;have B:j < i∧l[j]?=some F:=by
    rw[eb] at k1;split at k1
    ·rename_i u;rw[eb] at k1;split at k1
     ·exact ⟨u,k1⟩
     ·cases k1
    ·cases k1
   have Q:=CC aN ht B.2 S (by omega);rw[if_pos B.1] at Q;obtain ⟨m,M,a0⟩:=BJ Q;have b:=anc hE hI.down i o hi hready j m M a0;have bz : tr[j]?=some O:=by
    rw[eb] at H;split at H
    ·exact H
    ·cases H
   exact ⟨b1 F (ew B.2) t S,hI.new j F t O b B.2 S bz⟩
  ·rw[S] at hl;refine hI.old t d hl fun j F b c T=>?_;have B:¬ j < i:=fun h=>k1 j F (by rw[eb,if_pos h,eb,if_pos (by omega)]; exact c) T;have aP:j≠i:=fun e=>by subst e; rw[hL] at b; cases b
   have Q:=CC aN ht c T aP;rw[if_neg B] at Q;obtain ⟨m,M,a0⟩:=BJ Q;have:=anc hE hI.down j F c (hI.down j F c b) i m M a0;rw[hL] at this;cases this
 have bk:∀ d,o.dst=some d→d < a.tmps.size:=fun d W=>by rw[hI.size]; exact b1 o (ew hi) d W
 have bG:=htr.length;have bF:i < (l.take nq).length:=(dW.1 hq).1
 -- ab of different operations' new things are different
 have ab:∀ (j:Nat) p,tr[j]?=some p→∀ m,get p.nw m≠none→m.g=g∧∃ F,l[j]?=some F∧F.dst=some m.i:=by
  intro j p J m M;have a9:j < (l.take nq).length:=by have:=(dW.1 J).1; omega
  have ar:(l.take nq)[j]?=some (l.take nq)[j]:=dO a9;obtain ⟨_,O,_,S,H,_⟩:=htr.split j _ ar;rw[J] at S;cases S;have bt : l[j]?=some (l.take nq)[j]:=by
   rw[eb] at ar;split at ar
   ·exact ar
   ·cases ar
  cases hg:get p.nw m with
  | none=>exact absurd hg M
  | some y=>exact ⟨(H _ (AQ hg)).1,_,bt,(H _ (AQ hg)).2⟩
 have aA:∀ (j k:Nat) p q m,tr[j]?=some p→tr[k]?=some q→get p.nw m≠none→get q.nw m≠none→j=k:=by
  intro j k p q m J C u I;obtain ⟨_,o1,q1,q2⟩:=ab j p J m u;obtain ⟨_,o2,q3,q4⟩:=ab k q C m I;exact Cf aO j k o1 o2 _ q1 q3 q2 q4
 have a5:∀ (k:Nat) p m,tr[k]?=some p→m∈p.dead→m.g=g∧(∃ ob,get (accT (tr.take k) st.σ) m=some ob)∧(∃ (j:Nat) (O : TE),j < k∧tr[j]?=some O∧get O.nw m≠none)∧∀ (j:Nat) F,l[j]?=some F→F.dst=some m.i→bit (masks l []) k j=true:=by
  intro k p m J M;have aL:k < (l.take nq).length:=by have:=(dW.1 J).1; omega
  obtain ⟨_,O,_,S,_,H⟩:=htr.split k _ (dO aL);rw[J] at S;cases S;rcases H with ⟨_,_,H,_⟩ | ⟨_,_,_,H,_⟩ | ⟨_,σs,H,_,_,k4,k5,k6⟩
  ·rw[H] at M; cases M
  ·rw[H] at M; cases M
  ·have hg:=k5 m M;have b2:=M;rw[H] at b2;obtain ⟨q,b9,rfl⟩:=eh.1 b2;refine ⟨hg,⟨q.2,k4 q b9⟩,?_,fun j F c T=>?_⟩
   ·rcases accT_some _ _ (k4 q b9) with h | ⟨j,O,u,I⟩
    ·obtain ⟨⟨ng,ni,nj⟩,qo⟩:=q;have bm : ng=g:=hg;subst bm;rw[hσg] at h; cases h
    ·rw[eb] at u;split at u
     ·rename_i an; exact ⟨j,O,an,u,by rw[I]; simp⟩
     ·cases u
   ·have hx:=eL.1 k6 q.1 M;have a9:=(dW.1 c).1;have hy:=eL.1 hx j (fE.2 (by simpa using a9));simp only[eK,c,eH,Option.join_some,T,beq_self_eq_true,fQ,fL,eN] at hy;exact hy
 have bi : ∀ (j k:Nat) p q m,j < k→tr[j]?=some p→tr[k]?=some q→m∈p.dead→m∈q.dead→False:=by
  intro j k p q m an J C u I;obtain ⟨_,_,⟨j0,p0,bo,aR,ah⟩,_⟩:=a5 j p m J u;obtain ⟨_,⟨ob,b5⟩,_,_⟩:=a5 k q m C I;have:=accT_dead (m:=m) (tr.take k) st.σ j p (by rw[eb,if_pos an]; exact J) u fun x y hx hy=>by
   rw[eb] at hy;split at hy
   ·cases R:get y.nw m with
    | none=>rfl
    | some z=>exact absurd (aA j0 x p0 y m aR hy ah (by simp[R])) (by omega)
   ·cases hy
  rw[this] at b5; cases b5
 have twice:∀ (j k:Nat) p q m,j≠k→tr[j]?=some p→tr[k]?=some q→m∈p.dead→m∉q.dead:=by
  intro j k p q m an J C u I;rcases Nat.lt_or_gt_of_ne an with h | h
  ·exact bi j k p q m h J C u I
  ·exact bi k j q p m h C J I u
 have ay:∀ (k:Nat) p m,tr[k]?=some p→get p.kept m≠none→m∈p.dead:=by
  intro k p m J M;have aL:k < (l.take nq).length:=by have:=(dW.1 J).1; omega
  obtain ⟨_,O,_,S,_,H⟩:=htr.split k _ (dO aL);rw[J] at S;cases S;rcases H with ⟨_,_,_,H⟩ | ⟨_,_,_,_,H⟩ | ⟨_,σs,_,_,H,_⟩
  ·rw[H] at M; exact absurd rfl M
  ·rw[H] at M; exact absurd rfl M
  ·cases hg:get p.kept m with
   | none=>exact absurd hg M
   | some y=>exact H _ (AQ hg)
 -- what is ak was made before
 have bf:∀ n,get nw n≠none→Dh L 0 tr n=none:=by
  intro n s;cases Y:Dh L 0 tr n with
  | none=>rfl
  | some y =>
   obtain ⟨j,q,C,b,au⟩:=FK 0 tr Y;simp only[eN] at b;obtain ⟨_,o1,q1,q2⟩:=ab i _ U n s;obtain ⟨_,_,_,Q⟩:=a5 j q n C (ay j q n C au);obtain ⟨mm,aq,a0⟩:=BJ (Q i o1 q1 q2);have a9:j < (l.take nq).length:=by have:=(dW.1 C).1; omega
   obtain ⟨oj,ao⟩:∃ oj,l[j]?=some oj:=⟨_,dO (show j < l.length by simp at a9; omega)⟩
   have:=anc hE hI.down j oj ao (hI.down j oj ao b) i mm aq a0;rw[hL] at this; cases this
 have be:∀ n,n∈a8→Dh L 0 tr n=none:=by
  intro n s;cases Y:Dh L 0 tr n with
  | none=>rfl
  | some y =>
   obtain ⟨j,q,C,b,au⟩:=FK 0 tr Y;simp only[eN] at b;have B:j≠i:=fun e=>by subst e; rw[hL] at b; cases b
   exact absurd s (twice j i q _ n B C U (ay j q n C au))
 have aM:=Ry hL hL' hLo 0 tr ⟨v,nw,a8,ak⟩ (dX _) (by simpa using U) (by
  intro j q n C B s;simp only[eN] at B;cases R:get q.kept n with
  | none=>rfl
  | some z=>exact absurd (ay j q n C (by simp[R])) (twice i j _ q n (Ne.symm B) U C (ay i _ n U s)))
 have aS:=kappT_put hL hL' hLo 0 tr (get st.σ) ⟨v,nw,a8,ak⟩ (dX _) (by simpa using U) (by
  intro j q C bn b;simp only[eN] at bn b;refine ⟨fun n=>?_,fun n s W=>?_,fun n s=>?_⟩
  ·cases u:get nw n with
   | none=>exact .inl rfl
   | some x =>
    cases I:get q.nw n with
    | none=>exact .inr rfl
    | some y=>exact absurd (aA i j _ q n U C (by simp[u]) (by simp[I])) (by omega)
  ·obtain ⟨_,o1,q1,q2⟩:=ab i _ U n s;obtain ⟨_,_,_,Q⟩:=a5 j q n C W;obtain ⟨mm,aq,a0⟩:=BJ (Q i o1 q1 q2);have a9:j < (l.take nq).length:=by have:=(dW.1 C).1; omega
   obtain ⟨oj,ao⟩:∃ oj,l[j]?=some oj:=⟨_,dO (show j < l.length by simp at a9; omega)⟩
   have:=anc hE hI.down j oj ao (hI.down j oj ao b) i mm aq a0;rw[hL] at this; cases this
  ·obtain ⟨_,_,⟨j0,p0,bo,aR,ah⟩,_⟩:=a5 i _ n U s;cases R:get q.nw n with
   | none=>rfl
   | some z=>exact absurd (aA j0 j p0 q n aR C ah (by simp[R])) (by omega))
 -- what follows aA a value is there
 have aH:∀ G' w' x,WF w0 G' w'→V G' w' x v→Objs w0 G' w' (tot L' tr (get st.σ))→Step (rsv g o.dst) G w (tot L tr (get st.σ)) G' w' (tot L' tr (get st.σ))→K (a.put o.dst x) w':=by
  intro G' w' x ax hv ho Z;have ba:∀ t,o.dst≠some t→(a.put o.dst x).tmps.getD t undef=a.tmps.getD t undef:=by
   intro t ht;cases bj:o.dst with
   | none=>rfl
   | some d =>
    simp only[Act.put,er,eW];rw[if_neg (fun e=>ht (by rw[bj,e]))]
  refine hK G' w' _ ⟨by rw[EB,hI.size],by cases o.dst <;> exact hI.defers.step Z hI.wf hI.objs,ax,fun t d hl b4=>?_,fun j F t O b c T J=>?_,ho,⟨eV hI.fresh.1 Z.top,fun j F d b c T q=>?_⟩,hI.step.trans (Z.weaken fun n _ s=>s.1),fun j F c b e X Q=>?_⟩
  ·have aP:o.dst≠some t:=b4 i o hL' hi;rw[ba t aP];obtain ⟨u,I⟩:=hI.old t d hl fun j F b c=>by
    by_cases B:j=i
    ·subst B; rw[hL] at b; cases b
    ·exact b4 j F (by rw[hLo j B]; exact b) c
   exact ⟨u,I.step Z hI.wf hI.objs⟩
  ·by_cases B:j=i
   ·subst B;rw[hi] at c;cases c;rw[U] at J;cases J;have:=bk t T;simp only[T,Act.put,er,eW];simp only[↓reduceIte,this,eX];exact hv
   ·rw[hLo j B] at b;rw[ba t fun e=>B (Cf aO j i F o t c hi T e)];exact (hI.new j F t O b c T J).step Z hI.wf hI.objs
  ·have B:j≠i:=fun e=>by subst e; rw[hL'] at b; cases b
   rw[hLo j B] at b;exact Z.fresh hI.fresh.1 (hI.fresh.2 j F d b c T q) fun ⟨_,X⟩=>B (Cf aO j i F o d c hi T X)
  ·have keep:L e.on=true→L' e.on=true:=fun h=>by
    by_cases h' : e.on=i
    ·rw[h']; exact hL'
    ·rw[hLo _ h']; exact h
   by_cases B:j=i
   ·subst B;rw[hi] at c;cases c;exact keep (hready e X Q)
   ·simp only at b;rw[hLo j B] at b;exact keep (hI.down j F c b e X Q)
 unfold wpOpIn;simp only[eA,hi];have bh:∀ x∈o.op.operands,V G w (a.eval x) (ev E aG x):=by
  intro x hx;cases x with
  | tmp t =>
   simp only[Act.eval,Ab.ev];cases hl:lk aG t with
   | none=>exact .any _
   | some d=>exact (aC t d (by unfold looks; exact eI _ (fJ.2 ⟨.tmp t,by simpa using hx,rfl⟩)) hl).2
  | const v=>exact V.ofV G w v
  | global g=>exact E.hglob w0 hA G w hI.wf g
  | func f=>exact .func rfl rfl (by simp) (by simp)
 rcases bu with ⟨hw,b8,a1,ap⟩ | ⟨hw,bc,ah,a1,ap⟩ | ⟨hw,σs,a1,bb,b0,bd,_,_⟩
 ·simp only at b8 a1 ap;rw[if_pos (Dn hw aC)];have aQ:∀ n x,get st.σ n=some x→tot L tr (get st.σ) n=some x:=by
   intro n x s;have aK:Dh L 0 tr n=none:=by
    cases Y:Dh L 0 tr n with
    | none=>rfl
    | some y =>
     obtain ⟨j,q,C,_,au⟩:=FK 0 tr Y;have ai:=(a5 j q n C (ay j q n C au)).1;obtain ⟨ng,ni,nj⟩:=n;have e' : ng=g:=ai;subst e';rw[hσg] at s; cases s
   simp only[tot,Kp.or,aK,fM];rw[kappT_old 0 tr _ fun p J=>?_]
   ·exact s
   ·obtain ⟨j,c⟩:=fg.1 J;have ai:n.g≠g:=fun e=>by
     obtain ⟨ng,ni,nj⟩:=n;have e' : ng=g:=e;subst e';rw[hσg] at s; cases s
    refine ⟨?_,fun W=>ai (a5 j p n c W).1⟩;cases R:get p.nw n with
    | none=>rfl
    | some y=>exact absurd (ab j p c n (by simp[R])).1 ai
  refine b8 w0 hA G w a hI.wf bh (hI.objs.sub aQ) (fun d W=>⟨hI.fresh.1,fun j=>hI.fresh.2 i o d hL hi W j⟩) K Q' (fun G' w' x ax hv ho Z=>?_) rd;obtain ⟨f1,f2⟩:=frame (κs:=get st.σ) (τ:=fun n=>if get st.σ n=none then tot L tr (get st.σ) n else none) hI.wf hI.objs aQ (fun n x s=>by
    split at s
    ·rename_i h0; exact ⟨s,h0⟩
    ·cases s) Z ho
  have X:Kp.or (Kp.or (get nw) (get st.σ)) (fun n=>if get st.σ n=none then tot L tr (get st.σ) n else none)=tot L' tr (get st.σ):=by
   have bp:Dh L' 0 tr=Dh L 0 tr:=by rw[aM,ap]; funext n; simp[Kp.or,get]
   have b6:=aQ;unfold tot at b6 ⊢;rw[aS,bp]
   funext n
   simp only[Kp.or,minus,a1,List.not_mem_nil,if_false];cases u:get nw n with
   | some y=>simp[bf n (by simp[u])]
   | none =>
    simp only[fM];cases I:get st.σ n with
    | none=>simp
    | some y =>
     have:=b6 n y I;simp only[Kp.or] at this;simp[this]
  rw[X] at f1 f2;exact aH G' w' x ax hv f1 f2
 ·simp only at bc ah a1 ap;rw[Dn hw aC,if_neg (by simp)];refine ⟨fun f _=>Fi rd f,?_⟩;have X:tot L' tr (get st.σ)=tot L tr (get st.σ):=by
   unfold tot;rw[aS,aM]
   funext n
   simp[Kp.or,get,ah,minus,a1,ap]
  exact aH G w undef hI.wf (by rw[bc]; exact .val _) (by rw[X]; exact hI.objs) (by rw[X]; exact .refl _ _ _ _)
 ·simp only at a1 bb bd b0;rw[if_pos (Dn hw aC)];have bv:∀ n x,get σs n=some x→tot L tr (get st.σ) n=some x:=by
   intro n x s;have b3:=AQ s;have aJ:n∈a8:=by rw[a1]; exact eh.2 ⟨_,b3,rfl⟩
   obtain ⟨ai,_,_,a0⟩:=a5 i _ n U aJ;rcases accT_some _ _ (bd _ b3) with h | ⟨j,O,u,I⟩
   ·obtain ⟨ng,ni,nj⟩:=n;have e' : ng=g:=ai;subst e';rw[hσg] at h; cases h
   ·have c:j < i∧tr[j]?=some O:=by
     rw[eb] at u;split at u
     ·rename_i c; exact ⟨c,u⟩
     ·cases u
    obtain ⟨_,o1,q1,q2⟩:=ab j O c.2 n (by simp only at I; simp[I]);obtain ⟨mm,aq,Q⟩:=BJ (a0 j o1 q1 q2);have b:=anc hE hI.down i o hi hready j mm aq Q;simp only[tot,Kp.or,be n aJ,fM];refine kappT_get 0 tr _ (fun k p Y aI W=>?_) (fun k p Y _=>?_) (.inr ⟨j,O,c.2,by simpa using b,I⟩)
    ·have bq:k≠i:=fun e=>by subst e; simp only[eN] at aI; rw[hL] at aI; cases aI
     exact twice k i p _ n bq Y U W aJ
    ·cases R:get p.nw n with
     | none=>exact .inl rfl
     | some y =>
      have:=aA j k O p n c.2 Y (by simp only at I; simp[I]) (by simp[R]);subst this;rw[c.2] at Y;cases Y;simp only at I;rw[← R,I];exact .inr rfl
  have hτ:∀ n x,minus (tot L tr (get st.σ)) a8 n=some x→tot L tr (get st.σ) n=some x∧get σs n=none:=by
   intro n x s;simp only[minus] at s;split at s
   ·cases s
   ·rename_i bs;refine ⟨s,?_⟩;cases R:get σs n with
    | none=>rfl
    | some y=>exact absurd (by rw[a1]; exact eh.2 ⟨_,AQ R,rfl⟩) bs
  have bl:=bb.frame bv hτ;refine bl w0 hA G w a hI.wf bh hI.objs (fun d W=>⟨hI.fresh.1,fun j=>hI.fresh.2 i o d hL hi W j⟩) K Q' (fun G' w' x ax hv ho Z=>?_) rd;have X:Kp.or (get (ak++nw)) (minus (tot L tr (get st.σ)) a8)=tot L' tr (get st.σ):=by
   unfold tot;rw[aS,aM,Bj]
   funext n
   simp only[Kp.or,minus];by_cases hd:n∈a8
   ·simp[hd,be n hd]
   ·have aK:get ak n=none:=by
     cases R:get ak n with
     | none=>rfl
     | some z=>exact absurd (b0 _ (AQ R)) hd
    simp only[aK,fM,hd,if_false];cases u:get nw n with
    | none=>simp
    | some y=>simp[bf n (by simp[u])]
  rw[X] at ho Z;exact aH G' w' x ax hv ho Z
theorem any_of_invT {rd:Option Nat} {w0:World} (hA:E.A w0) {nq:Nat} (hnq:nq≤l.length) (hok:Dg N l nq=true) {tr:List TE} {env' : List (Nat × D)} (htr:TTrace E l (masks l []) g st.σ 0 st.σ (l.take nq) st.env tr env') (hσg:∀ i j,get st.σ ⟨g,i,j⟩=none)
  {G1:Gh} {w1:World} {Q' : Exit→Act→World→Prop} (hend:∀ L G w a,(∀ j,j < nq→L j=true)→(∀ j,nq≤j→L j=false)→InvT w0 E N l g st tr G1 w1 L G w a→wpListIn (Fr rd) 0 E.P l.toArray Q' (l.drop nq) a w) :
  ∀ (fuel:Nat) (A:Array Bool) (G:Gh) (w:World) (a:Act),A.size=l.length→left A l.length=fuel→(∀ j,nq≤j→j < l.length→A.getD j true=false)→InvT w0 E N l g st tr G1 w1 (fun j=>A.getD j false) G w a →
   wpAnyIn (Fr rd) 0 E.P .any l.toArray Q' fuel A a w:=by
 have B:=hok;simp only[Dg,ej] at B;obtain ⟨⟨⟨_,s⟩,_⟩,v⟩:=B;have same:∀ (A:Array Bool) (j:Nat),A.size=l.length→j < l.length→A.getD j true=A.getD j false:=fun A j d f=>by
  simp[show j < A.size by omega]
 intro fuel;induction fuel with
 | zero =>
  intro A G w a c y k p;have n:=CZ y;have V:nq=l.length:=by
   refine gs hnq (fX fun z=>?_);have d:=n nq z;rw[k nq (ec _) z] at d;cases d
  refine Fa s v 0 l.length A a w c hnq (by omega) (fun j b=>by rw[n j b]; simp[b]) ?_;rw[← V];refine hend _ G w a (fun j b=>by rw[← same A j c (by omega)]; exact n j (by omega)) (fun j b=>?_) p;simp[eS (show A.size≤j by omega)]
 | succ fuel ih =>
  intro A G w a c y k p;by_cases t:left A nq=0
  ·have n:=CZ t;have a0:left A l.length=l.length - nq:=by
    have:∀ m,nq≤m→m≤l.length→left A m=m - nq:=by
     intro m;induction m with
     | zero=>intro d _; rw[im.1 d] at t; simp[left]
     | succ m Y =>
      intro d f;by_cases r:nq=m + 1
      ·rw[← r,t]; omega
      ·rw[Do,Y (by omega) (by omega),k m (by omega) (by omega)];simp;omega
    exact this _ hnq (ec _)
   refine Fa s v (fuel + 1) nq A a w c (ec _) (by omega) (fun j b=>?_) ?_
   ·by_cases h:j < nq
    ·rw[n j h]; simp[h]
    ·rw[k j (by omega) b]; simp[h]
   ·refine hend _ G w a (fun j b=>by rw[← same A j c (by omega)]; exact n j b) (fun j b=>?_) p;by_cases h:j < l.length
    ·rw[← same A j c h]; exact k j b h
    ·simp[eS (show A.size≤j by omega)]
  ·obtain ⟨q,a1,C,X⟩:=F7 t;have W:l[q]?=some l[q]:=dO (by omega);have F:q∈Region.ready .any l.toArray A:=by
    refine mem_ready.2 ⟨C,l[q],by simp,fun e O u=>?_⟩;have:=BU 0 l s q _ W e O u;rw[← same A e.on c (by omega)];exact X e.on (by omega)
   refine ⟨fun h0=>(by rw[h0] at F; cases F),fun i Q=>?_⟩;obtain ⟨d,o,f,r⟩:=mem_ready.1 Q;simp only[eA] at f;have x:=(dW.1 f).1;have R:i < nq:=by
    refine gH fun _=>?_;have H:=BX v i o f;simp only[eN,fW,decide_eq_true_eq,eL] at H;have u:=(H.resolve_left (by omega)) q (fE.2 (by omega));obtain ⟨m,U,M⟩:=BJ u;have:=anc s p.down i o f r q m U M;rw[← same A q c (by omega),C] at this;cases this
   refine invT_step hA hok htr hσg p f R (by rw[← same A i c x]; exact d) r (L':=fun j=>(A.setIfInBounds i true).getD j false) (by simp[show i < A.size by omega]) (fun j b=>getD_set_ne false (Ne.symm b)) (fun I Z J K=>?_) rd;refine ih (A.setIfInBounds i true) I Z J (by simpa using c) ?_ (fun j S T=>by rw[getD_set_ne true (by omega)]; exact k j S T) K;have:=Fq A d l.length;rw[if_pos x] at this;omega
theorem awp_drawT {Q:Exit→St→Prop} {id:Nat} (nq:Nat) (hnq:nq≤l.length) (hok:Dg N l nq=true)
  (h:∀ g,(∀ i j,get st.σ ⟨g,i,j⟩=none)→QRunT E l (masks l []) g st.σ 0 (AOps E N l g (fun s=>Q .normal s) (l.drop nq)) [] (l.take nq) st):AWp E N (.region id l.toArray true) Q st:=by
 intro I M G w a S hr rd ap;obtain ⟨r,ht,hf,D,k,m⟩:=bump hr;have a3:=hok;simp only[Dg,ej] at a3;obtain ⟨a2,a0⟩:=Cq a3.1.1.1;obtain ⟨c,env',A,hK⟩:=h G.top D;refine wpIn_region_any E.mixed ?_
 -- the draw
 have T:∀ v d,V r w v d→V r { w with drawn:=w.drawn + 1 } v d:=fun v d h=>h.mono (fun _ h=>h) (fun _ _=>rfl) (fun _ _ h=>h);have a8:InvT I E N l G.top st c r { w with drawn:=w.drawn + 1 } (fun j=>(Array.replicate l.length false).getD j false) r { w with drawn:=w.drawn + 1 } a:=by
  have z:∀ j,(Array.replicate l.length false).getD j false=false:=fun j=>by
   by_cases b:j < l.length
   ·simp[b]
   ·simp[eS (show (Array.replicate l.length false).size≤j by simp; omega)]
  have X:tot (fun j=>(Array.replicate l.length false).getD j false) c (get st.σ)=get st.σ:=by
   unfold tot;rw[kappT_none 0 c _ z,PV 0 c z]
   funext n
   simp[Kp.or]
  refine ⟨S,k.defers,⟨k.wf.below.draw,k.wf.old,k.wf.lt,k.wf.nm⟩,fun t d f _=>⟨by rw[← S]; exact (k.env t d f).1,T _ _ (k.env t d f).2⟩,fun j o t p y=>?_,?_,⟨by omega,fun j o d _ _ _ q=>hf d q⟩,?_,fun i o _ y=>?_⟩
  ·rw[z] at y; cases y
  ·rw[X];exact ⟨fun n o hn=>let ⟨v,x,u,h3⟩:=k.objs.ob n o hn; ⟨v,x,u.mono T fun _ _=>rfl,h3⟩,k.objs.ne⟩
  ·rw[X]; exact .refl _ _ _ _
  ·have O : (Array.replicate l.length false).getD i false=true:=y;rw[z] at O; cases O
 refine any_of_invT M hnq hok A D (fun L J w' K C P e=>?_) l.toArray.size (Array.replicate l.toArray.size false) r _ a (by simp) (by simp only[gb]; exact HA _ _ (ec _)) (fun j x u=>by simp[u]) (by simpa using a8);have Z:=A.length;have ac:=Yh a2 A D;have Y:tot L c (get st.σ)=get (Ng c []++accT c st.σ):=by
  unfold tot;rw[kappT_all 0 c st.σ fun j _ b=>C j (by rw[Z,eD] at b; omega),Bj,← RA (L:=L) 0 c [] (fun j _ b=>C j (by rw[Z,eD] at b; omega)) ac (fun _ _ _ _ _=>rfl)]
  funext n
  simp[Kp.or,get]
 have af:Rel I J w' K ⟨env',Ng c []++accT c st.σ⟩:=by
  refine ⟨e.wf,fun t d f=>?_,by rw[← Y]; exact e.objs,e.defers⟩;rw[e.size];have a7:∀ (j:Nat) o,(l.take nq)[j]?=some o→j < nq∧l[j]?=some o:=fun j o h=>by
   rw[eb] at h;split at h
   ·rename_i b; exact ⟨b,h⟩
   ·cases h
  rcases A.env t with ⟨j,o,p,H,B,k3,k4⟩ | ⟨H,B⟩
  ·simp only at f;rw[k4] at f;cases f;obtain ⟨b,W⟩:=a7 j o H;exact ⟨a0 o (ew W) t B,e.new j o t p (C j b) W B k3⟩
  ·simp only at f;rw[B] at f;refine e.old t d f fun j o R b=>?_;by_cases ab:j < nq
   ·exact H j o (by rw[eb,if_pos ab]; exact b)
   ·rw[P j (by omega)] at R; cases R
 refine hK I M J w' K e.size af e.fresh.1 ?_ (fun o ho d U=>?_) _ (fun G2 ao _ _ q1 q2 q3 q4=>⟨G2,ao,q1,q2,?_,q4⟩) rd
 ·exact a2.sublist ((gO nq l).filterMap _)
 ·obtain ⟨j,b⟩:=fg.1 ho;rw[eR] at b;exact ⟨a0 o (ew b) d U,e.fresh.2 (nq + j) o d (P _ (by omega)) b U⟩
 ·have ag:Step (fun n=>n.g=G.top) G w (get st.σ) r { w with drawn:=w.drawn + 1 } (get st.σ) :=
   ⟨ec _,fun _ _ _=>rfl,m.F,m.F',m.ρ,fun n x u _=>m.ρ' n x u fun h=>h,m.top,m.blk',m.dom,m.base⟩
  have a4:=e.step;rw[Y] at a4;exact ((ag.trans a4).trans q3).weaken fun n hn _=>by omega
end
section
variable {E:Ctx} {N:Nat} {ops:List Oper} {g:Nat} {σ0:Sto} {st st' : St} {K:St→Prop} {ds:List (Option Tmp)} {M:List Nat} {i:Nat} {kp:Sto}
theorem qrunT_step {o:Oper} {r:List Oper} (hds:ops.map (·.dst)=ds) (h:Jf E ds g σ0 o st=some st') (k:QRunT E ops M g σ0 (i + 1) K kp r st'):QRunT E ops M g σ0 i K kp (o :: r) st:=by
 unfold Jf at h;rw[Cl hds] at h;split at h
 ·rename_i b;obtain ⟨⟨v,e⟩,c,d⟩:=ee.1 h;subst d;exact qrunT_cons (p:=⟨v,e,[],[]⟩) ⟨fun q a=>LX c q a,.inl ⟨b,Hy c,rfl,rfl⟩⟩ k
 ·rename_i b;cases h;exact qrunT_cons (p:=⟨.val undef,[],[],[]⟩) ⟨fun q a=>(by cases a),.inr (.inl ⟨b,rfl,rfl,rfl,rfl⟩)⟩ k
 ·cases h
theorem qrunT_run (n:Nat) (hds:ops.map (·.dst)=ds):∀ {i:Nat} {l l' : List Oper} {st st' : St},qrun E ds g σ0 n l st=some (l',st')→n≤l.length→QRunT E ops M g σ0 (i + n) K kp l' st'→QRunT E ops M g σ0 i K kp l st:=by
 induction n with
 | zero =>
  intro i l l' st st' h _ k;simp only[qrun,Option.some.injEq,Prod.mk.injEq] at h;obtain ⟨rfl,rfl⟩:=h;exact k
 | succ n ih =>
  intro i l l' st st' h a k;cases l with
  | nil=>simp at a
  | cons o r =>
   simp only[qrun] at h;split at h
   ·rename_i s b;exact qrunT_step hds b (ih h (by simpa using a) (by rw[show i + 1 + n=i + (n + 1) by omega]; exact k))
   ·cases h
theorem qrunT_eval (n:Nat) {l:List Oper} (hds:ops.map (·.dst)=ds) (hl:decide (n≤l.length)=true) (h:SomeP (qrun E ds g σ0 n l st) fun r=>QRunT E ops M g σ0 (i + n) K kp r.1 r.2):QRunT E ops M g σ0 i K kp l st:=by
 obtain ⟨⟨c,d⟩,a,b⟩:=h.elim;exact qrunT_run n hds a (by simpa using hl) b
theorem qrunT_last (n:Nat) {l:List Oper} (hds:ops.map (·.dst)=ds) (hl:decide (n≤l.length)=true) (h:SomeP (qrun E ds g σ0 n l st) fun r=>r.1=[]∧K { env:=r.2.env,σ:=kp++r.2.σ }):QRunT E ops M g σ0 i K kp l st:=by
 obtain ⟨⟨d,e⟩,b,a,c⟩:=h.elim;simp only at a;subst a;exact qrunT_run n hds b (by simpa using hl) (qrunT_nil c)
theorem qrunT_call {o:Oper} {r:List Oper} {f:FuncId} {args args' : List D} {σs nw:Sto} {d:Nat} {x:D} (hds:ops.map (·.dst)=ds) (hw:Cv ds st.env o.guard=some true) (hd:o.dst=some d) (hc:CO o (ev E st.env)=some (f,args)) (h:ACalls E f args' σs g d x (nw++σs)) (hco:CoL args args')
  (hsub:∀ p∈σs,get σ0 p.1=some p.2) (hnw:nwOk g (some d) nw=true) (k:QRunT E ops M g σ0 (i + 1) K kp r { env:=(d,x) :: st.env,σ:=nw++st.σ }):QRunT E ops M g σ0 i K kp (o :: r) st:=by
 refine qrunT_cons (p:=⟨x,nw,[],[]⟩) ⟨fun q a=>by rw[hd]; exact LW hnw q a,.inl ⟨by rw[← Cl hds]; exact hw,Ab.Og hc hco hd h hsub,rfl,rfl⟩⟩ ?_;rw[hd];exact k
theorem qrunT_pure {o:Oper} {r:List Oper} {f:FuncId} {args args' : List D} {nw:Sto} {d:Nat} {x:D} (hds:ops.map (·.dst)=ds) (hw:Cv ds st.env o.guard=some true) (hd:o.dst=some d) (hc:CO o (ev E st.env)=some (f,args)) (h:ACalls E f args' [] g d x nw) (hco:CoL args args')
  (hnw:nwOk g (some d) nw=true) (k:QRunT E ops M g σ0 (i + 1) K kp r { env:=(d,x) :: st.env,σ:=nw++st.σ }):QRunT E ops M g σ0 i K kp (o :: r) st :=
 qrunT_call (σs:=[]) hds hw hd hc (by simpa using h) hco (fun _ hp=>by cases hp) hnw k
theorem qrunT_app {o:Oper} {r:List Oper} {t el:TypeId} {so x:Operand} {d:Nat} (hds:ops.map (·.dst)=ds) (hw:Cv ds st.env o.guard=some true) (hop:o.op=.call { callee:=.builtin .append,args:=#[so,x],argTypes:=#[t,t] }) (hd:o.dst=some d)
  {n:Nm} {len:Nat} (hs:ev E st.env so=.own n len) {xf:Bool} {rows2:List D} (hx:ev E st.env x=.sl xf rows2) {k:Nat}
  (he:AM E.P t=some el) (hk:szOf E.P el=some k) {bs:Nat} (hbs:AJ E.P el=some bs) {z:Value} (hz:AL E.P el=some z) (hzs:z.cells.size=k) (hk0:0 < k) (hng:n.g=g) (htk:Mc M ds i [n]=true)
  (h:SomeP (get st.σ n) fun ob=>SomeP (Gw el k ob) fun rows=>BO k rows2∧(rows.length + rows2.length≤9223372036854775807∧(rows.length + rows2.length) * bs≤140737488355328) ∧
   QRunT E ops M g σ0 (i + 1) K kp r { env:=(d,.own ⟨g,d,0⟩ (rows.length + rows2.length)) :: st.env,σ:=(⟨g,d,0⟩,.arr el k (rows++rows2)) :: del st.σ n }):QRunT E ops M g σ0 i K kp (o :: r) st:=by
 obtain ⟨ob,u,h⟩:=h.elim;obtain ⟨rows,f,v,j,w⟩:=h.elim;cases ob with
 | arr c b B =>
  simp only[Gw] at f;split at f
  ·rename_i y;obtain ⟨rfl,rfl⟩:=y;cases f;have s:=HU (E:=E) (g:=g) (e:=ev E st.env) (κ:=get [(n,Ob.arr c b rows)]) hop hd hs (by simp[get]) hx he hk hbs hz hzs hk0 v j.1 j.2;have A:(Kp.del (get [(n,Ob.arr c b rows)]) n).put ⟨g,d,0⟩ (.arr c b (rows++rows2))=get [(⟨g,d,0⟩,.arr c b (rows++rows2))]:=by
    funext m
    simp only[Kp.put,Kp.del,get];split <;> simp
   rw[A] at s;refine qrunT_cons (p:=⟨.own ⟨g,d,0⟩ (rows.length + rows2.length),[(⟨g,d,0⟩,.arr c b (rows++rows2))],[n],[]⟩) ⟨fun q a=>?_,.inr (.inr ⟨by rw[← Cl hds]; exact hw,[(n,.arr c b rows)],rfl,s,fun q a=>(nomatch a),fun q a=>?_,fun m l=>?_,by rw[hds]; exact htk⟩)⟩ ?_
   ·simp only[eg] at a;subst a;exact ⟨rfl,hd⟩
   ·simp only[eg] at a;subst a;exact u
   ·simp only[eg] at l;subst l;exact hng
   ·rw[hd];exact w
  ·cases f
 | _=>cases f
theorem Ij {o:Oper} {r:List Oper} {t:TypeId} {ao x:Operand} (hds:ops.map (·.dst)=ds) (hw:Cv ds st.env o.guard=some true) (hd:o.dst=none) (hop:o.op=.store t ao x) (n:Nm) (hng:n.g=g) (htk:Mc M ds i [n]=true)
  (h:SomeP (get st.σ n) fun ob=>SomeP (Hz E.P t (ev E st.env ao) (ev E st.env x) [(n,ob)]) fun σ1=>QRunT E ops M g σ0 (i + 1) K (σ1++kp) r { env:=st.env,σ:=del st.σ n }):QRunT E ops M g σ0 i K kp (o :: r) st:=by
 obtain ⟨ob,d,h⟩:=h.elim;obtain ⟨σ1,b,f⟩:=h.elim;obtain ⟨k,rfl⟩:=Pu b;have j:=Gu (E:=E) (g:=g) (e:=ev E st.env) hop b;refine qrunT_cons (p:=⟨.val undef,[],[n],[(n,k)]⟩) ⟨(fun q a=>nomatch a),.inr (.inr ⟨by rw[← Cl hds]; exact hw,[(n,ob)],rfl,j,fun q a=>?_,fun q a=>?_,fun _ c=>?_,by rw[hds]; exact htk⟩)⟩ ?_
 ·simp only[eg] at a ⊢;rw[a]
 ·simp only[eg] at a;subst a;exact d
 ·simp only[eg] at c;subst c;exact hng
 ·rw[hd];exact f
theorem awp_anyT {Q:Exit→St→Prop} {id:Nat} {l:List Oper} (nq:Nat) (M:List Nat) (hM:masks l []=M) (hnq:decide (nq≤l.length)=true) (hok:Dg N l nq=true) (hds:l.map (·.dst)=ds)
  (h:∀ g,(∀ i j,get st.σ ⟨g,i,j⟩=none)→∀ (ops:List Oper) (K:St→Prop),ops.map (·.dst)=ds→(∀ s,Q .normal s→K s)→QRunT E ops M g st.σ 0 (AOps E N ops g K (l.drop nq)) [] (l.take nq) st):AWp E N (.region id l.toArray true) Q st :=
 awp_drawT nq (by simpa using hnq) hok fun g hg=>by rw[hM]; exact h g hg l _ hds fun _ h=>h
end
end Go.Ab.Kept
