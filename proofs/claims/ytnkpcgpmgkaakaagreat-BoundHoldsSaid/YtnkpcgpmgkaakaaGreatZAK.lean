/- A part of the proof: ZAK. -/
import Derived.Test.YtnkpcgpmgkaakaaGreatZAJ
import Derived.Shelf.SlSortCmp.NoneTotal
namespace Go.Ab
open Go Go.RowKit
structure TE where
 v:D
 nw:Sto
 dead:List Nm
def minus (κ:Kp) (ms:List Nm):Kp:=fun n=>if n∈ms then none else κ n
def Mc (M:List Nat) (ds:List (Option Tmp)) (i:Nat) (ms:List Nm):Bool :=
 ms.all fun m=>(List.range ds.length).all fun j=>!((ds[j]?).join == some m.i) || bit M i j
def TStep (E:Ctx) (ops:List Oper) (M:List Nat) (g:Nat) (σ0:Sto) (i:Nat) (o:Oper) (σ:Sto) (env:List (Nat × D)) (p:TE):Prop :=
  (∀ q∈p.nw,q.1.g=g∧o.dst=some q.1.i) ∧
  ((Dt ops env o=some true∧QOp E g o (ev E env) (get σ0) p.v p.nw∧p.dead=[])∨(Dt ops env o=some false∧p.v=.val undef∧p.nw=[]∧p.dead=[]) ∨
   (Dt ops env o=some true∧∃ σs:Sto,p.dead=σs.map (·.1)∧TOp E g o (ev E env) (get σs) p.v (get p.nw)∧(∀ q∈σs,get σ q.1=some q.2)∧(∀ m∈p.dead,m.g=g)∧Mc M (ops.map (·.dst)) i p.dead=true))
inductive TTrace (E:Ctx) (ops:List Oper) (M:List Nat) (g:Nat) (σ0:Sto):Nat→Sto→List Oper→List (Nat × D)→List TE→List (Nat × D)→Prop
 | nil {i:Nat} {σ:Sto} {env:List (Nat × D)}:TTrace E ops M g σ0 i σ [] env [] env
 | cons {i:Nat} {σ:Sto} {o:Oper} {r:List Oper} {env env' : List (Nat × D)} {p:TE} {tr:List TE}:TStep E ops M g σ0 i o σ env p→TTrace E ops M g σ0 (i + 1) (p.nw++dels σ p.dead) r (putE env o.dst p.v) tr env' →
   TTrace E ops M g σ0 i σ (o :: r) env (p :: tr) env'
def accT:List TE→Sto→Sto
 | [],σ=>σ
 | p :: r,σ=>accT r (p.nw++dels σ p.dead)
def QRunT (E:Ctx) (ops:List Oper) (M:List Nat) (g:Nat) (σ0:Sto) (i:Nat) (K:St→Prop) (l:List Oper) (st:St):Prop :=
 ∃ tr env',TTrace E ops M g σ0 i st.σ l st.env tr env'∧K ⟨env',accT tr st.σ⟩
section
variable {E:Ctx} {N:Nat} {ops:List Oper} {M:List Nat} {g i0:Nat} {σ0:Sto} {st:St}
theorem qrunT_nil {K:St→Prop} (h:K st):QRunT E ops M g σ0 i0 K [] st:=⟨[],st.env,.nil,h⟩
theorem qrunT_cons {K:St→Prop} {o:Oper} {r:List Oper} {p:TE} (hs:TStep E ops M g σ0 i0 o st.σ st.env p) (h:QRunT E ops M g σ0 (i0 + 1) K r { env:=putE st.env o.dst p.v,σ:=p.nw++dels st.σ p.dead }):QRunT E ops M g σ0 i0 K (o :: r) st :=
 let ⟨tr,env',h1,h2⟩:=h
 ⟨p :: tr,env',.cons hs h1,h2⟩
theorem TTrace.length {l:List Oper} {σ:Sto} {env env' : List (Nat × D)} {tr:List TE} (h:TTrace E ops M g σ0 i0 σ l env tr env'):tr.length=l.length:=by
 induction h with
 | nil=>rfl
 | cons _ _ ih=>simp[ih]
theorem TTrace.split {l:List Oper} {σ:Sto} {env env' : List (Nat × D)} {tr:List TE} (h:TTrace E ops M g σ0 i0 σ l env tr env') :
  ∀ (i:Nat) o,l[i]?=some o→∃ envi p,TTrace E ops M g σ0 i0 σ (l.take i) env (tr.take i) envi∧tr[i]?=some p∧TStep E ops M g σ0 (i0 + i) o (accT (tr.take i) σ) envi p:=by
 induction h with
 | nil=>intro i o h; simp at h
 | cons c _ ih =>
  intro i o b;cases i with
  | zero=>simp only[ey,Option.some.injEq] at b; subst b; exact ⟨_,_,.nil,rfl,c⟩
  | succ i =>
   obtain ⟨envi,p,d,e,f⟩:=ih i o (by simpa using b);refine ⟨envi,p,.cons c d,e,?_⟩;rw[show ∀ a:Nat,a + (i + 1)=a + 1 + i by omega];exact f
theorem TTrace.env {l:List Oper} {σ:Sto} {env env' : List (Nat × D)} {tr:List TE} (h:TTrace E ops M g σ0 i0 σ l env tr env') (t:Nat) :
  (∃ (j:Nat) (o:Oper) (p:TE),l[j]?=some o∧o.dst=some t∧tr[j]?=some p∧lk env' t=some p.v)∨((∀ (j:Nat) o,l[j]?=some o→o.dst≠some t)∧lk env' t=lk env t):=by
 induction h with
 | nil=>exact .inr ⟨fun j o h=>by simp at h,rfl⟩
 | cons u _ ih =>
  rename_i i σ o r env env' p tr _;rcases ih with ⟨j,k,s,c,a,m,n⟩ | ⟨c,a⟩
  ·exact .inl ⟨j + 1,k,s,by simpa using c,a,by simpa using m,n⟩
  ·by_cases b:o.dst=some t
   ·refine .inl ⟨0,o,p,rfl,b,rfl,?_⟩;rw[a,b];simp[putE,lk]
   ·refine .inr ⟨fun j k f=>?_,?_⟩
    ·cases j with
     | zero=>simp only[ey,Option.some.injEq] at f; subst f; exact b
     | succ j=>exact c j k (by simpa using f)
    ·rw[a];cases q:o.dst with
     | none=>rfl
     | some d =>
      simp only[putE,lk];rw[if_neg (fun e=>b (by rw[q,e]))]
def kappT (L:Nat→Bool):Nat→List TE→Kp→Kp
 | _,[],κ=>κ
 | k,p :: r,κ=>kappT L (k + 1) r (if L k then Kp.or (get p.nw) (minus κ p.dead) else κ)
theorem Db (σ:Sto) (ms:List Nm):get (dels σ ms)=minus (get σ) ms:=by
 funext n
 rw[KE,minus]
theorem kappT_congr {L L' : Nat→Bool}:∀ (k:Nat) (tr:List TE) (κ:Kp),(∀ j,k≤j→L j=L' j)→kappT L k tr κ=kappT L' k tr κ
 | _,[],_,_=>rfl
 | k,_ :: r,κ,h=>by
  simp only[kappT,h k (ec _)];exact kappT_congr (k + 1) r _ fun j _=>h j (by omega)
theorem kappT_in (L:Nat→Bool) (a:Kp) (ms:List Nm):∀ (k:Nat) (tr:List TE) (κ:Kp),
  (∀ (j:Nat) p,tr[j]?=some p→L (k + j)=true→Dis a (get p.nw)∧(∀ n,a n≠none→n∉p.dead)∧∀ n∈ms,get p.nw n=none)→kappT L k tr (Kp.or a (minus κ ms))=Kp.or a (minus (kappT L k tr κ) ms)
 | _,[],_,_=>rfl
 | k,p :: r,κ,h=>by
  simp only[kappT];have ih:=fun κ'=>kappT_in L a ms (k + 1) r κ' (fun j q hj hL=>h (j + 1) q (by simpa using hj) (by rw[show k + (j + 1)=k + 1 + j by omega]; exact hL));split
  ·rename_i hL;obtain ⟨h1,h2,h3⟩:=h 0 p rfl (by simpa using hL);rw[← ih]
   congr 1
   funext n
   simp only[Kp.or,minus];rcases h1 n with e | e
   ·simp only[e,fM];by_cases hm:n∈ms
    ·simp[hm,h3 n hm]
    ·simp[hm]
   ·simp only[e,fM];by_cases hd:n∈p.dead
    ·have:a n=none:=by
      cases b:a n with
      | none=>rfl
      | some y=>exact absurd hd (h2 n (by simp[b]))
     simp[hd,this]
    ·simp[hd]
  ·exact ih κ
theorem kappT_put {L L' : Nat→Bool} {i:Nat} (hi:L i=false) (hi' : L' i=true) (ho:∀ j,j≠i→L' j=L j):∀ (k:Nat) (tr:List TE) (κ:Kp) (p:TE),k≤i→tr[i - k]?=some p →
  (∀ (j:Nat) q,tr[j]?=some q→i < k + j→L (k + j)=true→Dis (get p.nw) (get q.nw)∧(∀ n,get p.nw n≠none→n∉q.dead)∧∀ n∈p.dead,get q.nw n=none)→kappT L' k tr κ=Kp.or (get p.nw) (minus (kappT L k tr κ) p.dead)
 | k,[],κ,p,_,h,_=>by simp at h
 | k,q :: r,κ,p,hk,h,hd=>by
  simp only[kappT];by_cases he:k=i
  ·subst he;simp only[gJ,ey,Option.some.injEq] at h;subst h;rw[hi,hi'];simp only[if_true,fb,if_false];rw[kappT_congr (L':=L) (k + 1) r _ fun j hj=>ho j (by omega)];exact kappT_in L _ _ (k + 1) r κ fun j x hx hL=>hd (j + 1) x (by simpa using hx) (by omega) (by rw[show k + (j + 1)=k + 1 + j by omega]; exact hL)
  ·rw[ho k he];rw[show i - k=(i - (k + 1)) + 1 by omega,fK] at h;exact kappT_put hi hi' ho (k + 1) r _ p (by omega) h (fun j x hj _ hL=>hd (j + 1) x (by simpa using hj) (by omega) (by rw[show k + (j + 1)=k + 1 + j by omega]; exact hL))
theorem kappT_get {L:Nat→Bool} {m:Nm} {ob:Ob}:∀ (k:Nat) (tr:List TE) (κ:Kp),(∀ (j:Nat) p,tr[j]?=some p→L (k + j)=true→m∉p.dead) →
  (∀ (j:Nat) p,tr[j]?=some p→L (k + j)=true→get p.nw m=none∨get p.nw m=some ob)→(κ m=some ob∨∃ (j:Nat) (p:TE),tr[j]?=some p∧L (k + j)=true∧get p.nw m=some ob)→kappT L k tr κ m=some ob
 | _,[],_,_,_,h=>by
  rcases h with h | ⟨j,p,h,_⟩
  ·exact h
  ·simp at h
 | k,p :: r,κ,h1,h2,h3=>by
  simp only[kappT];refine kappT_get (k + 1) r _ (fun j q hj hL=>h1 (j + 1) q (by simpa using hj) (by rw[show k + (j + 1)=k + 1 + j by omega]; exact hL)) (fun j q hj hL=>h2 (j + 1) q (by simpa using hj) (by rw[show k + (j + 1)=k + 1 + j by omega]; exact hL)) ?_;rcases h3 with h3 | ⟨j,q,hj,hL,hq⟩
  ·left;split
   ·rename_i hL;have a1:=h1 0 p rfl (by simpa using hL);rcases h2 0 p rfl (by simpa using hL) with a2 | a2
    ·simp[Kp.or,a2,minus,a1,h3]
    ·simp[Kp.or,a2]
   ·exact h3
  ·cases j with
   | zero =>
    left;simp only[ey,Option.some.injEq] at hj;subst hj;rw[if_pos (by simpa using hL)];simp[Kp.or,hq]
   | succ j=>exact .inr ⟨j,q,by simpa using hj,by rw[show k + 1 + j=k + (j + 1) by omega]; exact hL,hq⟩
theorem kappT_old {L:Nat→Bool} {n:Nm}:∀ (k:Nat) (tr:List TE) (κ:Kp),(∀ p∈tr,get p.nw n=none∧n∉p.dead)→kappT L k tr κ n=κ n
 | _,[],_,_=>rfl
 | k,p :: r,κ,h=>by
  simp only[kappT];rw[kappT_old (k + 1) r _ fun p hp=>h p (ea _ hp)];obtain ⟨h1,h2⟩:=h p dY;split
  ·simp[Kp.or,h1,minus,h2]
  ·rfl
theorem kappT_all {L:Nat→Bool}:∀ (k:Nat) (tr:List TE) (σ:Sto),(∀ j,k≤j→j < k + tr.length→L j=true)→kappT L k tr (get σ)=get (accT tr σ)
 | _,[],_,_=>rfl
 | k,p :: r,σ,h=>by
  simp only[kappT,accT];rw[h k (ec _) (by simp),if_pos rfl,← Db,← Bj];exact kappT_all (k + 1) r _ fun j _ _=>h j (by omega) (by simp; omega)
theorem kappT_none {L:Nat→Bool}:∀ (k:Nat) (tr:List TE) (κ:Kp),(∀ j,L j=false)→kappT L k tr κ=κ
 | _,[],_,_=>rfl
 | k,p :: r,κ,h=>by
  simp only[kappT];rw[h k];exact kappT_none (k + 1) r _ h
theorem Md {a b:Sto} {m:Nm} {ob:Ob} (h:get (a++b) m=some ob):get a m=some ob∨(get a m=none∧get b m=some ob):=by
 rw[Bj] at h;simp only[Kp.or] at h;cases c:get a m with
 | none=>rw[c] at h; exact .inr ⟨rfl,by simpa using h⟩
 | some x=>rw[c] at h; exact .inl (by simpa using h)
theorem accT_some {m:Nm} {ob:Ob}:∀ (tr:List TE) (σ:Sto),get (accT tr σ) m=some ob→get σ m=some ob∨∃ (j:Nat) (p:TE),tr[j]?=some p∧get p.nw m=some ob
 | [],σ,h=>.inl h
 | p :: r,σ,h=>by
  rcases accT_some r _ h with h | ⟨j,q,h1,h2⟩
  ·rcases Md h with h | ⟨_,h⟩
   ·exact .inr ⟨0,p,rfl,h⟩
   ·rw[Db,minus] at h;split at h
    ·cases h
    ·exact .inl h
  ·exact .inr ⟨j + 1,q,by simpa using h1,h2⟩
theorem accT_gone {m:Nm}:∀ (tr:List TE) (σ:Sto),get σ m=none→(∀ p∈tr,get p.nw m=none)→get (accT tr σ) m=none
 | [],_,h,_=>h
 | p :: r,σ,h,hn=>by
  refine accT_gone r _ ?_ fun q hq=>hn q (ea _ hq);rw[Bj,Kp.or,hn p dY,Db,minus,h];simp
theorem accT_dead {m:Nm}:∀ (tr:List TE) (σ:Sto) (k:Nat) (p:TE),tr[k]?=some p→m∈p.dead→(∀ (j:Nat) q,k≤j→tr[j]?=some q→get q.nw m=none)→get (accT tr σ) m=none
 | [],_,_,_,h,_,_=>by simp at h
 | q :: r,σ,0,p,h,hm,hn=>by
  simp only[ey,Option.some.injEq] at h;subst h;refine accT_gone r _ ?_ fun x hx=>?_
  ·rw[Bj,Kp.or,hn 0 q (ec _) rfl,Db,minus,if_pos hm]
   rfl
  ·obtain ⟨j,hj⟩:=fg.1 hx;exact hn (j + 1) x (by omega) (by simpa using hj)
 | q :: r,σ,k + 1,p,h,hm,hn=>accT_dead r _ k p (by simpa using h) hm fun j x _ hx=>hn (j + 1) x (by omega) (by simpa using hx)
end
section
variable {E:Ctx} {N:Nat} {l:List Oper} {g:Nat} {st:St}
structure InvT (w0:World) (E:Ctx) (N:Nat) (l:List Oper) (g:Nat) (st:St) (tr:List TE) (G1:Gh) (w1:World) (L:Nat→Bool) (G:Gh) (w:World) (a:Act):Prop where
 size:a.tmps.size=N
 defers:Marks G w a.defers
 wf:WF w0 G w
 old:∀ t d,lk st.env t=some d→(∀ (j:Nat) o,L j=true→l[j]?=some o→o.dst≠some t)→t < N∧V G w (a.tmps.getD t undef) d
 new:∀ (j:Nat) o t p,L j=true→l[j]?=some o→o.dst=some t→tr[j]?=some p→V G w (a.tmps.getD t undef) p.v
 objs:Objs w0 G w (kappT L 0 tr (get st.σ))
 fresh:g < G.top∧∀ (j:Nat) o d,L j=false→l[j]?=some o→o.dst=some d→∀ q,G.ρ ⟨g,d,q⟩=none
 step:Step (fun n=>n.g=g) G1 w1 (get st.σ) G w (kappT L 0 tr (get st.σ))
 down:Down l (fun i=>L i=true)
theorem invT_step {w0:World} (hA:E.A w0) {nq:Nat} (hok:Dg N l nq=true) {tr:List TE} {env' : List (Nat × D)} (htr:TTrace E l (masks l []) g st.σ 0 st.σ (l.take nq) st.env tr env') (hσg:∀ i j,get st.σ ⟨g,i,j⟩=none)
  {G1:Gh} {w1:World} {L:Nat→Bool} {G:Gh} {w:World} {a:Act} (hI:InvT w0 E N l g st tr G1 w1 L G w a) {i:Nat} {o:Oper} (hi:l[i]?=some o) (hin:i < nq) (hL:L i=false) (hready:∀ e∈o.after,Region.binds .any e=true→L e.on=true)
  {L' : Nat→Bool} (hL' : L' i=true) (hLo:∀ j,j≠i→L' j=L j) {Q' : Exit→Act→World→Prop} {K:Act→World→Prop} (hK:∀ G' w' a',InvT w0 E N l g st tr G1 w1 L' G' w' a'→K a' w'):∀ r,wpOpIn (Fr r) 0 E.P l.toArray Q' i K a w:=by
 intro rd;simp only[Dg,ej] at hok;obtain ⟨⟨⟨hd,hE⟩,bg⟩,_⟩:=hok;obtain ⟨aD,aQ⟩:=Cq hd;have aB:=BX bg i o hi;simp only[eN] at aB;have hq:(l.take nq)[i]?=some o:=by rw[eb,if_pos hin]; exact hi
 obtain ⟨ay,⟨v,nw,aw⟩,bl,a2,bv,bj⟩:=htr.split i o hq
 -- a temporary that the operation looks at holds what it did in the order of the text
 have an:∀ t d,t∈looks l o→lk ay t=some d→t < a.tmps.size∧V G w (a.tmps.getD t undef) d:=by
  intro t d ht hl;rw[hI.size];rcases bl.env t with ⟨j,u,I,Z,U,J,k4⟩ | ⟨Z,U⟩
  ·rw[k4] at hl;cases hl;have F:j < i∧l[j]?=some u:=by
    rw[eb] at Z;split at Z
    ·rename_i s;rw[eb] at Z;split at Z
     ·exact ⟨s,Z⟩
     ·cases Z
    ·cases Z
   have O:=CC aB ht F.2 U (by omega);rw[if_pos F.1] at O;obtain ⟨m,M,a1⟩:=BJ O;have c:=anc hE hI.down i o hi hready j m M a1;have bn : tr[j]?=some I:=by
    rw[eb] at J;split at J
    ·exact J
    ·cases J
   exact ⟨aQ u (ew F.2) t U,hI.new j u t I c F.2 U bn⟩
  ·rw[U] at hl;refine hI.old t d hl fun j u c b Q=>?_;have F:¬ j < i:=fun h=>Z j u (by rw[eb,if_pos h,eb,if_pos (by omega)]; exact b) Q;have aE:j≠i:=fun e=>by subst e; rw[hL] at c; cases c
   have O:=CC aB ht b Q aE;rw[if_neg F] at O;obtain ⟨m,M,a1⟩:=BJ O;have:=anc hE hI.down j u b (hI.down j u b c) i m M a1;rw[hL] at this;cases this
 have b9:∀ d,o.dst=some d→d < a.tmps.size:=fun d R=>by rw[hI.size]; exact aQ o (ew hi) d R
 have bu:=htr.length;have bt:i < (l.take nq).length:=(dW.1 hq).1
 -- a8 of different operations' new things are different
 have a8:∀ (j:Nat) p,tr[j]?=some p→∀ m,get p.nw m≠none→m.g=g∧∃ u,l[j]?=some u∧u.dst=some m.i:=by
  intro j p H m M;have aa:j < (l.take nq).length:=by have:=(dW.1 H).1; omega
  have ac:(l.take nq)[j]?=some (l.take nq)[j]:=dO aa;obtain ⟨_,I,_,U,J,_⟩:=htr.split j _ ac;rw[H] at U;cases U;have bi : l[j]?=some (l.take nq)[j]:=by
   rw[eb] at ac;split at ac
   ·exact ac
   ·cases ac
  cases hg:get p.nw m with
  | none=>exact absurd hg M
  | some y=>exact ⟨(J _ (AQ hg)).1,_,bi,(J _ (AQ hg)).2⟩
 have ai:∀ (j k:Nat) p q m,tr[j]?=some p→tr[k]?=some q→get p.nw m≠none→get q.nw m≠none→j=k:=by
  intro j k p q m H S s B;obtain ⟨_,o1,q1,q2⟩:=a8 j p H m s;obtain ⟨_,o2,q3,q4⟩:=a8 k q S m B;exact Cf aD j k o1 o2 _ q1 q3 q2 q4
 have a4:∀ (k:Nat) p m,tr[k]?=some p→m∈p.dead→m.g=g∧(∃ ob,get (accT (tr.take k) st.σ) m=some ob)∧(∃ (j:Nat) (I : TE),j < k∧tr[j]?=some I∧get I.nw m≠none)∧∀ (j:Nat) u,l[j]?=some u→u.dst=some m.i→bit (masks l []) k j=true:=by
  intro k p m H M;have bf:k < (l.take nq).length:=by have:=(dW.1 H).1; omega
  obtain ⟨_,I,_,U,_,J⟩:=htr.split k _ (dO bf);rw[H] at U;cases U;rcases J with ⟨_,_,J⟩ | ⟨_,_,_,J⟩ | ⟨_,σs,J,_,k4,k5,k6⟩
  ·rw[J] at M; cases M
  ·rw[J] at M; cases M
  ·have hg:=k5 m M;have aR:=M;rw[J] at aR;obtain ⟨q,aX,rfl⟩:=eh.1 aR;refine ⟨hg,⟨q.2,k4 q aX⟩,?_,fun j u b Q=>?_⟩
   ·rcases accT_some _ _ (k4 q aX) with h | ⟨j,I,s,B⟩
    ·obtain ⟨⟨ng,ni,nj⟩,qo⟩:=q;have bb : ng=g:=hg;subst bb;rw[hσg] at h; cases h
    ·rw[eb] at s;split at s
     ·rename_i a9; exact ⟨j,I,a9,s,by rw[B]; simp⟩
     ·cases s
   ·have hx:=eL.1 k6 q.1 M;have aa:=(dW.1 b).1;have hy:=eL.1 hx j (fE.2 (by simpa using aa));simp only[eK,b,eH,Option.join_some,Q,beq_self_eq_true,fQ,fL,eN] at hy;exact hy
 have b6 : ∀ (j k:Nat) p q m,j < k→tr[j]?=some p→tr[k]?=some q→m∈p.dead→m∈q.dead→False:=by
  intro j k p q m a9 H S s B;obtain ⟨_,_,⟨j0,p0,bd,aG,a6⟩,_⟩:=a4 j p m H s;obtain ⟨_,⟨ob,aU⟩,_,_⟩:=a4 k q m S B;have:=accT_dead (m:=m) (tr.take k) st.σ j p (by rw[eb,if_pos a9]; exact H) s fun x y hx hy=>by
   rw[eb] at hy;split at hy
   ·cases W:get y.nw m with
    | none=>rfl
    | some z=>exact absurd (ai j0 x p0 y m aG hy a6 (by simp[W])) (by omega)
   ·cases hy
  rw[this] at aU; cases aU
 have twice:∀ (j k:Nat) p q m,j≠k→tr[j]?=some p→tr[k]?=some q→m∈p.dead→m∉q.dead:=by
  intro j k p q m a9 H S s B;rcases Nat.lt_or_gt_of_ne a9 with h | h
  ·exact b6 j k p q m h H S s B
  ·exact b6 k j q p m h S H B s
 have aH:=kappT_put hL hL' hLo 0 tr (get st.σ) ⟨v,nw,aw⟩ (dX _) (by simpa using a2) (by
  intro j q S bc c;simp only[eN] at bc c;refine ⟨fun n=>?_,fun n C R=>?_,fun n C=>?_⟩
  ·cases s:get nw n with
   | none=>exact .inl rfl
   | some x =>
    cases B:get q.nw n with
    | none=>exact .inr rfl
    | some y=>exact absurd (ai i j _ q n a2 S (by simp[s]) (by simp[B])) (by omega)
  ·obtain ⟨_,o1,q1,q2⟩:=a8 i _ a2 n C;obtain ⟨_,_,_,O⟩:=a4 j q n S R;obtain ⟨mm,aC,a1⟩:=BJ (O i o1 q1 q2);have aa:j < (l.take nq).length:=by have:=(dW.1 S).1; omega
   obtain ⟨oj,aP⟩:∃ oj,l[j]?=some oj:=⟨_,dO (show j < l.length by simp at aa; omega)⟩
   have:=anc hE hI.down j oj aP (hI.down j oj aP c) i mm aC a1;rw[hL] at this; cases this
  ·obtain ⟨_,_,⟨j0,p0,bd,aG,a6⟩,_⟩:=a4 i _ n a2 C;cases W:get q.nw n with
   | none=>rfl
   | some z=>exact absurd (ai j0 j p0 q n aG S a6 (by simp[W])) (by omega))
 -- what follows ai a value is there
 have az:∀ G' w' x,WF w0 G' w'→V G' w' x v→Objs w0 G' w' (kappT L' 0 tr (get st.σ))→Step (rsv g o.dst) G w (kappT L 0 tr (get st.σ)) G' w' (kappT L' 0 tr (get st.σ))→K (a.put o.dst x) w':=by
  intro G' w' x af hv ho T;have aY:∀ t,o.dst≠some t→(a.put o.dst x).tmps.getD t undef=a.tmps.getD t undef:=by
   intro t ht;cases b8:o.dst with
   | none=>rfl
   | some d =>
    simp only[Act.put,er,eW];rw[if_neg (fun e=>ht (by rw[b8,e]))]
  refine hK G' w' _ ⟨by rw[EB,hI.size],by cases o.dst <;> exact hI.defers.step T hI.wf hI.objs,af,fun t d hl aT=>?_,fun j u t I c b Q H=>?_,ho,⟨eV hI.fresh.1 T.top,fun j u d c b Q q=>?_⟩,hI.step.trans (T.weaken fun n _ C=>C.1),fun j u b c e Y O=>?_⟩
  ·have aE:o.dst≠some t:=aT i o hL' hi;rw[aY t aE];obtain ⟨s,B⟩:=hI.old t d hl fun j u c b=>by
    by_cases F:j=i
    ·subst F; rw[hL] at c; cases c
    ·exact aT j u (by rw[hLo j F]; exact c) b
   exact ⟨s,B.step T hI.wf hI.objs⟩
  ·by_cases F:j=i
   ·subst F;rw[hi] at b;cases b;rw[a2] at H;cases H;have:=b9 t Q;simp only[Q,Act.put,er,eW];simp only[↓reduceIte,this,eX];exact hv
   ·rw[hLo j F] at c;rw[aY t fun e=>F (Cf aD j i u o t b hi Q e)];exact (hI.new j u t I c b Q H).step T hI.wf hI.objs
  ·have F:j≠i:=fun e=>by subst e; rw[hL'] at c; cases c
   rw[hLo j F] at c;exact T.fresh hI.fresh.1 (hI.fresh.2 j u d c b Q q) fun ⟨_,Y⟩=>F (Cf aD j i u o d b hi Q Y)
  ·have keep:L e.on=true→L' e.on=true:=fun h=>by
    by_cases h' : e.on=i
    ·rw[h']; exact hL'
    ·rw[hLo _ h']; exact h
   by_cases F:j=i
   ·subst F;rw[hi] at b;cases b;exact keep (hready e Y O)
   ·simp only at c;rw[hLo j F] at c;exact keep (hI.down j u b c e Y O)
 unfold wpOpIn;simp only[eA,hi];have b5:∀ x∈o.op.operands,V G w (a.eval x) (ev E ay x):=by
  intro x hx;cases x with
  | tmp t =>
   simp only[Act.eval,Ab.ev];cases hl:lk ay t with
   | none=>exact .any _
   | some d=>exact (an t d (by unfold looks; exact eI _ (fJ.2 ⟨.tmp t,by simpa using hx,rfl⟩)) hl).2
  | const v=>exact V.ofV G w v
  | global g=>exact E.hglob w0 hA G w hI.wf g
  | func f=>exact .func rfl rfl (by simp) (by simp)
 rcases bj with ⟨hw,aW,X⟩ | ⟨hw,b0,a6,X⟩ | ⟨hw,σs,X,aZ,b1,_,_⟩
 ·simp only at aW X;rw[if_pos (Dn hw an)];have aF:∀ n x,get st.σ n=some x→kappT L 0 tr (get st.σ) n=some x:=by
   intro n x C;rw[kappT_old 0 tr _ fun p H=>?_]
   ·exact C
   ·obtain ⟨j,b⟩:=fg.1 H;have am:n.g≠g:=fun e=>by
     obtain ⟨ng,ni,nj⟩:=n;have e' : ng=g:=e;subst e';rw[hσg] at C; cases C
    refine ⟨?_,fun R=>am (a4 j p n b R).1⟩;cases W:get p.nw n with
    | none=>rfl
    | some y=>exact absurd (a8 j p b n (by simp[W])).1 am
  refine aW w0 hA G w a hI.wf b5 (hI.objs.sub aF) (fun d R=>⟨hI.fresh.1,fun j=>hI.fresh.2 i o d hL hi R j⟩) K Q' (fun G' w' x af hv ho T=>?_) rd;obtain ⟨f1,f2⟩:=frame (κs:=get st.σ) (τ:=fun n=>if get st.σ n=none then kappT L 0 tr (get st.σ) n else none) hI.wf hI.objs aF (fun n x C=>by
    split at C
    ·rename_i h0; exact ⟨C,h0⟩
    ·cases C) T ho
  have Y:Kp.or (Kp.or (get nw) (get st.σ)) (fun n=>if get st.σ n=none then kappT L 0 tr (get st.σ) n else none)=kappT L' 0 tr (get st.σ):=by
   rw[aH]
   funext n
   simp only[Kp.or,minus,X,List.not_mem_nil,if_false];cases s:get nw n with
   | some y=>simp
   | none =>
    simp only[fM];cases B:get st.σ n with
    | none=>simp
    | some y=>simp[aF n y B]
  rw[Y] at f1 f2;exact az G' w' x af hv f1 f2
 ·simp only at b0 a6 X;rw[Dn hw an,if_neg (by simp)];refine ⟨fun f _=>Fi rd f,?_⟩;have Y:kappT L' 0 tr (get st.σ)=kappT L 0 tr (get st.σ):=by
   rw[aH]
   funext n
   simp[Kp.or,get,a6,minus,X]
  exact az G w undef hI.wf (by rw[b0]; exact .val _) (by rw[Y]; exact hI.objs) (by rw[Y]; exact .refl _ _ _ _)
 ·simp only at X aZ b1;rw[if_pos (Dn hw an)];have bk:∀ n x,get σs n=some x→kappT L 0 tr (get st.σ) n=some x:=by
   intro n x C;have aS:=AQ C;have aO:n∈aw:=by rw[X]; exact eh.2 ⟨_,aS,rfl⟩
   obtain ⟨am,_,_,a1⟩:=a4 i _ n a2 aO;rcases accT_some _ _ (b1 _ aS) with h | ⟨j,I,s,B⟩
   ·obtain ⟨ng,ni,nj⟩:=n;have e' : ng=g:=am;subst e';rw[hσg] at h; cases h
   ·have b:j < i∧tr[j]?=some I:=by
     rw[eb] at s;split at s
     ·rename_i b; exact ⟨b,s⟩
     ·cases s
    obtain ⟨_,o1,q1,q2⟩:=a8 j I b.2 n (by simp only at B; simp[B]);obtain ⟨mm,aC,O⟩:=BJ (a1 j o1 q1 q2);have c:=anc hE hI.down i o hi hready j mm aC O;refine kappT_get 0 tr _ (fun k p hk aA R=>?_) (fun k p hk _=>?_) (.inr ⟨j,I,b.2,by simpa using c,B⟩)
    ·have be:k≠i:=fun e=>by subst e; simp only[eN] at aA; rw[hL] at aA; cases aA
     exact twice k i p _ n be hk a2 R aO
    ·cases W:get p.nw n with
     | none=>exact .inl rfl
     | some y =>
      have:=ai j k I p n b.2 hk (by simp only at B; simp[B]) (by simp[W]);subst this;rw[b.2] at hk;cases hk;simp only at B;rw[← W,B];exact .inr rfl
  have hτ:∀ n x,minus (kappT L 0 tr (get st.σ)) aw n=some x→kappT L 0 tr (get st.σ) n=some x∧get σs n=none:=by
   intro n x C;simp only[minus] at C;split at C
   ·cases C
   ·rename_i bh;refine ⟨C,?_⟩;cases W:get σs n with
    | none=>rfl
    | some y=>exact absurd (by rw[X]; exact eh.2 ⟨_,AQ W,rfl⟩) bh
  have ba:=aZ.frame bk hτ;refine ba w0 hA G w a hI.wf b5 hI.objs (fun d R=>⟨hI.fresh.1,fun j=>hI.fresh.2 i o d hL hi R j⟩) K Q' (fun G' w' x af hv ho T=>?_) rd;rw[← aH] at ho T;exact az G' w' x af hv ho T
theorem any_of_invT {rd:Option Nat} {w0:World} (hA:E.A w0) {nq:Nat} (hnq:nq≤l.length) (hok:Dg N l nq=true) {tr:List TE} {env' : List (Nat × D)} (htr:TTrace E l (masks l []) g st.σ 0 st.σ (l.take nq) st.env tr env') (hσg:∀ i j,get st.σ ⟨g,i,j⟩=none)
  {G1:Gh} {w1:World} {Q' : Exit→Act→World→Prop} (hend:∀ L G w a,(∀ j,j < nq→L j=true)→(∀ j,nq≤j→L j=false)→InvT w0 E N l g st tr G1 w1 L G w a→wpListIn (Fr rd) 0 E.P l.toArray Q' (l.drop nq) a w) :
  ∀ (fuel:Nat) (A:Array Bool) (G:Gh) (w:World) (a:Act),A.size=l.length→left A l.length=fuel→(∀ j,nq≤j→j < l.length→A.getD j true=false)→InvT w0 E N l g st tr G1 w1 (fun j=>A.getD j false) G w a →
   wpAnyIn (Fr rd) 0 E.P .any l.toArray Q' fuel A a w:=by
 have B:=hok;simp only[Dg,ej] at B;obtain ⟨⟨⟨_,s⟩,_⟩,v⟩:=B;have same:∀ (A:Array Bool) (j:Nat),A.size=l.length→j < l.length→A.getD j true=A.getD j false:=fun A j d f=>by
  simp[show j < A.size by omega]
 intro fuel;induction fuel with
 | zero =>
  intro A G w a c y k p;have n:=CZ y;have V:nq=l.length:=by
   refine gs hnq (fX fun z=>?_);have d:=n nq z;rw[k nq (ec _) z] at d;cases d
  refine Fa s v 0 l.length A a w c hnq (by omega) (fun j b=>by rw[n j b]; simp[b]) ?_;rw[← V];refine hend _ G w a (fun j b=>by rw[← same A j c (by omega)]; exact n j (by omega)) (fun j b=>?_) p;simp[eS (show A.size≤j by omega)]
 | succ fuel ih =>
  intro A G w a c y k p;by_cases t:left A nq=0
  ·have n:=CZ t;have a0:left A l.length=l.length - nq:=by
    have:∀ m,nq≤m→m≤l.length→left A m=m - nq:=by
     intro m;induction m with
     | zero=>intro d _; rw[im.1 d] at t; simp[left]
     | succ m Y =>
      intro d f;by_cases r:nq=m + 1
      ·rw[← r,t]; omega
      ·rw[Do,Y (by omega) (by omega),k m (by omega) (by omega)];simp;omega
    exact this _ hnq (ec _)
   refine Fa s v (fuel + 1) nq A a w c (ec _) (by omega) (fun j b=>?_) ?_
   ·by_cases h:j < nq
    ·rw[n j h]; simp[h]
    ·rw[k j (by omega) b]; simp[h]
   ·refine hend _ G w a (fun j b=>by rw[← same A j c (by omega)]; exact n j b) (fun j b=>?_) p;by_cases h:j < l.length
    ·rw[← same A j c h]; exact k j b h
    ·simp[eS (show A.size≤j by omega)]
  ·obtain ⟨q,a1,C,X⟩:=F7 t;have W:l[q]?=some l[q]:=dO (by omega);have F:q∈Region.ready .any l.toArray A:=by
    refine mem_ready.2 ⟨C,l[q],by simp,fun e O u=>?_⟩;have:=BU 0 l s q _ W e O u;rw[← same A e.on c (by omega)];exact X e.on (by omega)
   refine ⟨fun h0=>(by rw[h0] at F; cases F),fun i Q=>?_⟩;obtain ⟨d,o,f,r⟩:=mem_ready.1 Q;simp only[eA] at f;have x:=(dW.1 f).1;have R:i < nq:=by
    refine gH fun _=>?_;have H:=BX v i o f;simp only[eN,fW,decide_eq_true_eq,eL] at H;have u:=(H.resolve_left (by omega)) q (fE.2 (by omega));obtain ⟨m,U,M⟩:=BJ u;have:=anc s p.down i o f r q m U M;rw[← same A q c (by omega),C] at this;cases this
   refine invT_step hA hok htr hσg p f R (by rw[← same A i c x]; exact d) r (L':=fun j=>(A.setIfInBounds i true).getD j false) (by simp[show i < A.size by omega]) (fun j b=>getD_set_ne false (Ne.symm b)) (fun I Z J K=>?_) rd;refine ih (A.setIfInBounds i true) I Z J (by simpa using c) ?_ (fun j S T=>by rw[getD_set_ne true (by omega)]; exact k j S T) K;have:=Fq A d l.length;rw[if_pos x] at this;omega
theorem awp_drawT {Q:Exit→St→Prop} {id:Nat} (nq:Nat) (hnq:nq≤l.length) (hok:Dg N l nq=true)
  (h:∀ g,(∀ i j,get st.σ ⟨g,i,j⟩=none)→QRunT E l (masks l []) g st.σ 0 (AOps E N l g (fun s=>Q .normal s) (l.drop nq)) (l.take nq) st):AWp E N (.region id l.toArray true) Q st:=by
 intro D J G w a R hr rd ao;obtain ⟨r,ht,hf,hσ,f,k⟩:=bump hr;have a0:=hok;simp only[Dg,ej] at a0;obtain ⟨ab,Y⟩:=Cq a0.1.1.1;obtain ⟨m,env',B,hK⟩:=h G.top hσ;refine wpIn_region_any E.mixed ?_
 -- the draw
 have S:∀ v d,V r w v d→V r { w with drawn:=w.drawn + 1 } v d:=fun v d h=>h.mono (fun _ h=>h) (fun _ _=>rfl) (fun _ _ h=>h);have a6:InvT D E N l G.top st m r { w with drawn:=w.drawn + 1 } (fun j=>(Array.replicate l.length false).getD j false) r { w with drawn:=w.drawn + 1 } a:=by
  have A:∀ j,(Array.replicate l.length false).getD j false=false:=fun j=>by
   by_cases b:j < l.length
   ·simp[b]
   ·simp[eS (show (Array.replicate l.length false).size≤j by simp; omega)]
  have W:kappT (fun j=>(Array.replicate l.length false).getD j false) 0 m (get st.σ)=get st.σ:=kappT_none 0 m _ A;refine ⟨R,f.defers,⟨f.wf.below.draw,f.wf.old,f.wf.lt,f.wf.nm⟩,fun t d e _=>⟨by rw[← R]; exact (f.env t d e).1,S _ _ (f.env t d e).2⟩,fun j o t p y=>?_,?_,⟨by omega,fun j o d _ _ _ q=>hf d q⟩,?_,fun i o _ y=>?_⟩
  ·rw[A] at y; cases y
  ·rw[W];exact ⟨fun n o Z=>let ⟨v,x,u,h3⟩:=f.objs.ob n o Z; ⟨v,x,u.mono S fun _ _=>rfl,h3⟩,f.objs.ne⟩
  ·rw[W]; exact .refl _ _ _ _
  ·have K : (Array.replicate l.length false).getD i false=true:=y;rw[A] at K; cases K
 refine any_of_invT J hnq hok B hσ (fun L H w' I M O c=>?_) l.toArray.size (Array.replicate l.toArray.size false) r _ a (by simp) (by simp only[gb]; exact HA _ _ (ec _)) (fun j x u=>by simp[u]) (by simpa using a6);have aa:=B.length;have X:kappT L 0 m (get st.σ)=get (accT m st.σ):=kappT_all 0 m st.σ fun j _ b=>M j (by rw[aa,eD] at b; omega);have ae:Rel D H w' I ⟨env',accT m st.σ⟩:=by
  refine ⟨c.wf,fun t d e=>?_,by rw[← X]; exact c.objs,c.defers⟩;rw[c.size];have a5:∀ (j:Nat) o,(l.take nq)[j]?=some o→j < nq∧l[j]?=some o:=fun j o h=>by
   rw[eb] at h;split at h
   ·rename_i b; exact ⟨b,h⟩
   ·cases h
  rcases B.env t with ⟨j,o,p,C,z,k3,k4⟩ | ⟨C,z⟩
  ·simp only at e;rw[k4] at e;cases e;obtain ⟨b,U⟩:=a5 j o C;exact ⟨Y o (ew U) t z,c.new j o t p (M j b) U z k3⟩
  ·simp only at e;rw[z] at e;refine c.old t d e fun j o P b=>?_;by_cases a9:j < nq
   ·exact C j o (by rw[eb,if_pos a9]; exact b)
   ·rw[O j (by omega)] at P; cases P
 refine hK D J H w' I c.size ae c.fresh.1 ?_ (fun o ho d T=>?_) _ (fun G2 an _ _ q1 q2 q3 q4=>⟨G2,an,q1,q2,?_,q4⟩) rd
 ·exact ab.sublist ((gO nq l).filterMap _)
 ·obtain ⟨j,b⟩:=fg.1 ho;rw[eR] at b;exact ⟨Y o (ew b) d T,c.fresh.2 (nq + j) o d (O _ (by omega)) b T⟩
 ·have af:Step (fun n=>n.g=G.top) G w (get st.σ) r { w with drawn:=w.drawn + 1 } (get st.σ) :=
   ⟨ec _,fun _ _ _=>rfl,k.F,k.F',k.ρ,fun n x u _=>k.ρ' n x u fun h=>h,k.top,k.blk',k.dom,k.base⟩
  have a1:=c.step;rw[X] at a1;exact ((af.trans a1).trans q3).weaken fun n Z _=>by omega
end
section
variable {E:Ctx} {N:Nat} {ops:List Oper} {g:Nat} {σ0:Sto} {st st' : St} {K:St→Prop} {ds:List (Option Tmp)} {M:List Nat} {i:Nat}
theorem qrunT_step {o:Oper} {r:List Oper} (hds:ops.map (·.dst)=ds) (h:Jf E ds g σ0 o st=some st') (k:QRunT E ops M g σ0 (i + 1) K r st'):QRunT E ops M g σ0 i K (o :: r) st:=by
 unfold Jf at h;rw[Cl hds] at h;split at h
 ·rename_i b;obtain ⟨⟨v,e⟩,c,d⟩:=ee.1 h;subst d;exact qrunT_cons (p:=⟨v,e,[]⟩) ⟨fun q a=>LX c q a,.inl ⟨b,Hy c,rfl⟩⟩ k
 ·rename_i b;cases h;exact qrunT_cons (p:=⟨.val undef,[],[]⟩) ⟨fun q a=>(by cases a),.inr (.inl ⟨b,rfl,rfl,rfl⟩)⟩ k
 ·cases h
theorem qrunT_run (n:Nat) (hds:ops.map (·.dst)=ds):∀ {i:Nat} {l l' : List Oper} {st st' : St},qrun E ds g σ0 n l st=some (l',st')→n≤l.length→QRunT E ops M g σ0 (i + n) K l' st'→QRunT E ops M g σ0 i K l st:=by
 induction n with
 | zero =>
  intro i l l' st st' h _ k;simp only[qrun,Option.some.injEq,Prod.mk.injEq] at h;obtain ⟨rfl,rfl⟩:=h;exact k
 | succ n ih =>
  intro i l l' st st' h a k;cases l with
  | nil=>simp at a
  | cons o r =>
   simp only[qrun] at h;split at h
   ·rename_i s b;exact qrunT_step hds b (ih h (by simpa using a) (by rw[show i + 1 + n=i + (n + 1) by omega]; exact k))
   ·cases h
theorem qrunT_eval (n:Nat) {l:List Oper} (hds:ops.map (·.dst)=ds) (hl:decide (n≤l.length)=true) (h:SomeP (qrun E ds g σ0 n l st) fun r=>QRunT E ops M g σ0 (i + n) K r.1 r.2):QRunT E ops M g σ0 i K l st:=by
 obtain ⟨⟨c,d⟩,a,b⟩:=h.elim;exact qrunT_run n hds a (by simpa using hl) b
theorem qrunT_last (n:Nat) {l:List Oper} (hds:ops.map (·.dst)=ds) (hl:decide (n≤l.length)=true) (h:SomeP (qrun E ds g σ0 n l st) fun r=>r.1=[]∧K r.2):QRunT E ops M g σ0 i K l st:=by
 obtain ⟨⟨d,e⟩,b,a,c⟩:=h.elim;simp only at a;subst a;exact qrunT_run n hds b (by simpa using hl) (qrunT_nil c)
theorem qrunT_call {o:Oper} {r:List Oper} {f:FuncId} {args args' : List D} {σs nw:Sto} {d:Nat} {x:D} (hds:ops.map (·.dst)=ds) (hw:Cv ds st.env o.guard=some true) (hd:o.dst=some d) (hc:CO o (ev E st.env)=some (f,args)) (h:ACalls E f args' σs g d x (nw++σs)) (hco:CoL args args')
  (hsub:∀ p∈σs,get σ0 p.1=some p.2) (hnw:nwOk g (some d) nw=true) (k:QRunT E ops M g σ0 (i + 1) K r { env:=(d,x) :: st.env,σ:=nw++st.σ }):QRunT E ops M g σ0 i K (o :: r) st:=by
 refine qrunT_cons (p:=⟨x,nw,[]⟩) ⟨fun q a=>by rw[hd]; exact LW hnw q a,.inl ⟨by rw[← Cl hds]; exact hw,Ab.Og hc hco hd h hsub,rfl⟩⟩ ?_;rw[hd];exact k
theorem qrunT_pure {o:Oper} {r:List Oper} {f:FuncId} {args args' : List D} {nw:Sto} {d:Nat} {x:D} (hds:ops.map (·.dst)=ds) (hw:Cv ds st.env o.guard=some true) (hd:o.dst=some d) (hc:CO o (ev E st.env)=some (f,args)) (h:ACalls E f args' [] g d x nw) (hco:CoL args args')
  (hnw:nwOk g (some d) nw=true) (k:QRunT E ops M g σ0 (i + 1) K r { env:=(d,x) :: st.env,σ:=nw++st.σ }):QRunT E ops M g σ0 i K (o :: r) st :=
 qrunT_call (σs:=[]) hds hw hd hc (by simpa using h) hco (fun _ hp=>by cases hp) hnw k
theorem qrunT_app {o:Oper} {r:List Oper} {t el:TypeId} {so x:Operand} {d:Nat} (hds:ops.map (·.dst)=ds) (hw:Cv ds st.env o.guard=some true) (hop:o.op=.call { callee:=.builtin .append,args:=#[so,x],argTypes:=#[t,t] }) (hd:o.dst=some d)
  {n:Nm} {len:Nat} (hs:ev E st.env so=.own n len) {xf:Bool} {rows2:List D} (hx:ev E st.env x=.sl xf rows2) {k:Nat}
  (he:AM E.P t=some el) (hk:szOf E.P el=some k) {bs:Nat} (hbs:AJ E.P el=some bs) {z:Value} (hz:AL E.P el=some z) (hzs:z.cells.size=k) (hk0:0 < k) (hng:n.g=g) (htk:Mc M ds i [n]=true)
  (h:SomeP (get st.σ n) fun ob=>SomeP (Gw el k ob) fun rows=>BO k rows2∧(rows.length + rows2.length≤9223372036854775807∧(rows.length + rows2.length) * bs≤140737488355328) ∧
   QRunT E ops M g σ0 (i + 1) K r { env:=(d,.own ⟨g,d,0⟩ (rows.length + rows2.length)) :: st.env,σ:=(⟨g,d,0⟩,.arr el k (rows++rows2)) :: del st.σ n }):QRunT E ops M g σ0 i K (o :: r) st:=by
 obtain ⟨ob,u,h⟩:=h.elim;obtain ⟨rows,c,v,j,w⟩:=h.elim;cases ob with
 | arr b a B =>
  simp only[Gw] at c;split at c
  ·rename_i y;obtain ⟨rfl,rfl⟩:=y;cases c;have s:=HU (E:=E) (g:=g) (e:=ev E st.env) (κ:=get [(n,Ob.arr b a rows)]) hop hd hs (by simp[get]) hx he hk hbs hz hzs hk0 v j.1 j.2;have A:(Kp.del (get [(n,Ob.arr b a rows)]) n).put ⟨g,d,0⟩ (.arr b a (rows++rows2))=get [(⟨g,d,0⟩,.arr b a (rows++rows2))]:=by
    funext m
    simp only[Kp.put,Kp.del,get];split <;> simp
   rw[A] at s;refine qrunT_cons (p:=⟨.own ⟨g,d,0⟩ (rows.length + rows2.length),[(⟨g,d,0⟩,.arr b a (rows++rows2))],[n]⟩) ⟨fun q f=>?_,.inr (.inr ⟨by rw[← Cl hds]; exact hw,[(n,.arr b a rows)],rfl,s,fun q f=>?_,fun m l=>?_,by rw[hds]; exact htk⟩)⟩ ?_
   ·simp only[eg] at f;subst f;exact ⟨rfl,hd⟩
   ·simp only[eg] at f;subst f;exact u
   ·simp only[eg] at l;subst l;exact hng
   ·rw[hd];exact w
  ·cases c
 | _=>cases c
theorem Vq {fn:Func} {d:Nat} {r:D} {σ' : Sto} (t:Nat) (ty:TypeId) (k:Nat) (ht:lk st.env t=some (.val (.slice none 0 0))) (h:∀ g',(∀ i j,get st.σ ⟨g',i,j⟩=none)→retQ E fn g d r σ' .ret { env:=(t,.own ⟨g',0,0⟩ 0) :: st.env,σ:=(⟨g',0,0⟩,.arr ty k []) :: st.σ }):retQ E fn g d r σ' .ret st:=Ends.sees (SV t ty k ht h)
theorem XL {rest:List Oper} (h:Sees E st (AOps E N ops g K rest)):AOps E N ops g K rest st:=by
 intro l c G w a t x i v f p u C;obtain ⟨m,H,r,b,s⟩:=h l c G w a x;refine s l c m w a t r (eV i b.top) v (fun o k d e=>⟨(f o k d e).1,fun j=>b.fresh i ((f o k d e).2 j) fun h=>h⟩) p (fun n D q F y z A B=>?_) C;exact u n D q F y z ((b.weaken fun _ _ h=>h.elim).trans A) B
theorem Ti {rest:List Oper} (n:Nm) (h:SomeP (get st.σ n) fun ob=>SomeP (L3 ob) fun rows=>AOps E N ops g K rest { env:=DO (frzD n rows) st.env,σ:=Dq (frzD n rows) (del st.σ n) }):AOps E N ops g K rest st:=XL (IE n h)
theorem Zm {o:Oper} {r:List Oper} {f:FuncId} {args args' : List D} {n:Nm} {ob ob' : Ob} {d:Nat} {x:D} (hds:ops.map (·.dst)=ds) (hw:Cv ds st.env o.guard=some true) (hd:o.dst=some d) (hc:CO o (ev E st.env)=some (f,args)) (h:ACalls E f args' [(n,ob)] g d x [(n,ob')]) (hco:CoL args args')
  (hsub:get st.σ n=some ob) (k:AOps E N ops g K r { env:=(d,x) :: st.env,σ:=(n,ob') :: del st.σ n }):AOps E N ops g K (o :: r) st :=
 Dx hds hw hd hc h hco (fun _ hp=>by
  simp only[eg] at hp;subst hp;exact hsub) k
theorem awp_anyT {Q:Exit→St→Prop} {id:Nat} {l:List Oper} (nq:Nat) (M:List Nat) (hM:masks l []=M) (hnq:decide (nq≤l.length)=true) (hok:Dg N l nq=true) (hds:l.map (·.dst)=ds)
  (h:∀ g,(∀ i j,get st.σ ⟨g,i,j⟩=none)→∀ (ops:List Oper) (K:St→Prop),ops.map (·.dst)=ds→(∀ s,Q .normal s→K s)→QRunT E ops M g st.σ 0 (AOps E N ops g K (l.drop nq)) (l.take nq) st):AWp E N (.region id l.toArray true) Q st :=
 awp_drawT nq (by simpa using hnq) hok fun g hg=>by rw[hM]; exact h g hg l _ hds fun _ h=>h
end
end Go.Ab
namespace Go.Proofs.T
open Go Go.Ab Go.RowKit
def spOf (p:Prg) (x:Ty):List Sig:=if BN p x 2=true then Eh ((tyDe p x.name).getD BM) x.args else []
theorem Me (p:Prg) (h:smPr p) (x:Ty) (hx:smTy x) (j:Nat) (hj:CF p x.name=some j) (g d:Nat) :
    ACalls E 91 [AZ p,AC x] [] g d (.own ⟨g,d,1⟩ (Eh ((tyDe p x.name).getD BM) x.args).length) [(⟨g,d,1⟩,.arr 46 7 ((Eh ((tyDe p x.name).getD BM) x.args).map AH))]:=by
  have y:=E2 h x.name;obtain ⟨ap,hd⟩:=EE hj;rw[hd] at y ⊢;simp only[eX] at y ⊢;have au:=((Bi x).1 hx)
  have Q:=getM (f:=Ce) ap;generalize p.decls[j]=e at y Q ⊢;generalize hr:(D.own ⟨g,d,1⟩ (Eh e x.args).length)=R;generalize hw:([(⟨g,d,1⟩,.arr 46 7 ((Eh e x.args).map AH))]:Sto)=W;obtain ⟨-,⟨f1,f2⟩,-,⟨f3,L⟩,-⟩:=y;refine Ax 60 Tryz.call91 Tryz.func91 ?_;simp only[go_sem];refine Aa fun _ a1=>Ac 3 fun l _=>?_;simp only[go_sem];refine a1 (Aa fun _ a8=>AF 9 fun o _ _ _ v ah=>Av 5 v ?_);simp only[go_sem];refine Aw v (Dy p x.name h.1.1 _ _) ?_;refine Ap 3 v ?_;simp only[go_sem,hj,optI,Q];refine Ad 1 v ?_;simp only[go_sem];refine ah (a8 (Aa fun _ ab=>Ac 1 fun _ _=>?_));simp only[go_sem]
  refine ab (Aa fun _ ac=>Aa fun _ ad=>Ac 1 fun _ _=>?_);simp only[go_sem];refine ad (Ai ?_);refine Bh 6 46 7 rfl fun B S=>?_;have G:B≠l:=Ar S 3 0 (by simp[go_sem]);have H:B≠o:=Ar S 5 0 (by simp[go_sem]);refine Ay (fun m s=>∃ k a i n,k≤e.sigs.length∧m=e.sigs.length - k∧n=(Bu e x.args k).length∧a≠l∧a≠o ∧
      Le { env:=[(3,.ptr ⟨l,3,0⟩ 0),(5,.ptr ⟨o,5,0⟩ 0),(7,dN k),(6,.own ⟨a,i,0⟩ n)],
           σ:=[(⟨l,3,0⟩,.box 25 (tyC x)),(⟨o,5,0⟩,.box 48 (deC e)),(⟨a,i,0⟩,.arr 46 7 ((Bu e x.args k).map AH))] } s) e.sigs.length ?_ ?_
  · refine ⟨0,B,0,0,dX _,rfl,rfl,G,H,Ao ?_⟩;simp only[go_sem,Bu,tyC,tyC,G,H,G.symm,H.symm];trivial
  · rintro m s ⟨k,a,i,n,hk,rfl,u,ha0,ha1,r⟩;refine Az r ?_;clear r;by_cases b:k < e.sigs.length
    · have aA:=JH e x.args k;have q:=Fv e x.args k b;refine Aa fun _ ae=>Aa fun _ af=>Ac 5 fun X al=>?_;simp only[go_sem,tyC,tyC,tyC,b,ha1];refine af (Al (Ae (ae (Aa fun _ O=>Ai (Aa fun _ ag=>Ac 1 fun _ _=>?_)))));simp only[go_sem];refine ag (Aa fun _ a2=>Aa fun _ a3=>Ac 1 fun _ _=>?_);simp only[go_sem];refine a3 (Ai ?_);refine Ay (fun m s=>∃ j,j≤k∧m=k - j ∧
          Le { env:=[(3,.ptr ⟨l,3,0⟩ 0),(5,.ptr ⟨o,5,0⟩ 0),(7,dN k),(6,.own ⟨a,i,0⟩ n),(9,dN j),(8,dB (!seen e.sigs j e.sigs[k].name))],
               σ:=[(⟨l,3,0⟩,.box 25 (tyC x)),(⟨o,5,0⟩,.box 48 (deC e)),(⟨a,i,0⟩,.arr 46 7 ((Bu e x.args k).map AH))] } s) k ?_ ?_
      · refine ⟨0,dX _,rfl,Ao ?_⟩;simp only[go_sem,XI,tyC,tyC,tyC,ha0,ha1,ha0.symm,ha1.symm];trivial
      · rintro m s ⟨j,hj,rfl,r⟩;refine Az r ?_;clear r;by_cases t:j < k
        · have F:j < e.sigs.length:=by omega
          have z:=Rh e.sigs j e.sigs[k].name F;refine Aa fun _ a4=>Aa fun _ a5=>Ac 3 fun Z an=>?_;simp only[go_sem,tyC,tyC,tyC,tyC,t];refine a5 (Al (Ae (a4 (Aa fun _ M=>Ai (Aa fun _ N=>?_)))));by_cases w:e.sigs[j].name=e.sigs[k].name
          · rw[decide_eq_true w,Bool.or_true] at z;refine AE fun V ak av U K C=>Ap 13 K ?_;simp only[go_sem,getM b,getM F,w,ha1];refine C (N (Al (Ac 1 fun _ _=>?_)));simp only[go_sem];refine M (Ac 3 fun g9 ao=>?_);simp only[go_sem,tyC,tyC,tyC,tyC];try simp (disch:=omega) only[Au]
            refine ⟨_,?_,j + 1,t,rfl,Ao ?_⟩
            · omega
            simp only[go_sem,z,ha0,ha1,ha0.symm,ha1.symm];omega
          · rw[decide_eq_false w,Bool.or_false] at z;refine AE fun V ak av U K C=>Ap 13 K ?_;simp only[go_sem,getM b,getM F,w,ha1];refine C (N (Aj (Ae (M (Ac 3 fun g9 ao=>?_)))));simp only[go_sem,tyC,tyC,tyC,tyC];try simp (disch:=omega) only[Au]
            refine ⟨_,?_,j + 1,t,rfl,Ao ?_⟩
            · omega
            simp only[go_sem,z,ha0,ha1,ha0.symm,ha1.symm];omega
        · refine Aa fun _ _=>Aa fun _ a6=>Ac 3 fun Z an=>?_;simp only[go_sem,tyC,tyC,tyC,tyC,t];refine a6 (Aj (Aq (a2 (Aa fun _ a7=>?_))));have:j=k:=by omega
          subst this;refine Ac 1 fun _ _=>?_;simp only[go_sem];refine a7 ?_;cases T:seen e.sigs j e.sigs[j].name with
          | true =>
            rw[T,if_pos rfl] at q;refine Aj (Ae (O (Ac 3 fun Y am=>?_)));simp only[go_sem,tyC,tyC,tyC,tyC];try simp (disch:=omega) only[Au]
            refine ⟨_,?_,j + 1,a,i,n,b,rfl,by rw[q]; exact u,ha0,ha1,Ao ?_⟩
            · omega
            simp only[go_sem,q,ha0,ha1,ha0.symm,ha1.symm];trivial
          | false =>
            rw[T,if_neg (by simp)] at q;refine Al (AF 14 fun A P _ _ c ai=>Av 6 c ?_);simp only[go_sem,getM b,ha1];refine Aw c (Fk _ (L _ (dP b)) _ _) ?_;refine Av 2 c ?_;simp only[go_sem,ha1];refine AI c rfl rfl rfl (BA e.formals (by omega) _ _) (CoL.refl _) rfl ?_;refine Av 2 c ?_;simp only[go_sem,ha0];refine AI c rfl rfl rfl (HD (e.formals.map (·.name)) x.args (by simp; omega) au.2.2 _ (JS _ (L _ (dP b))) _ _) (CoL.refl _) rfl ?_;refine Ap 1 c ?_;simp only[go_sem];refine Af 0 c ?_;simp only[go_sem]
            refine AG c rfl rfl rfl rfl rfl es43 sz46 by46 ze46 rfl (by decide) ?_;simp only[go_sem,ha0.symm,ha1.symm];first | refine ⟨⟨by omega,by omega⟩,?_⟩ | skip
            refine Ad 1 c ?_;simp only[go_sem];refine ai (O ?_);have I:A≠l:=Ar P 3 0 (by simp[go_sem]);have J:A≠o:=Ar P 5 0 (by simp[go_sem]);refine Ac 3 fun Y am=>?_;simp only[go_sem,tyC,tyC,tyC,tyC];try simp (disch:=omega) only[Au]
            refine ⟨_,?_,j + 1,A,58,n + 1,b,rfl,by rw[q,dQ,u]; rfl,I,J,Ao ?_⟩
            · omega
            simp only[go_sem,q,I,I.symm,J,J.symm];exact ⟨⟨by omega,u.symm⟩,rfl⟩
    · refine Aa fun _ _=>Aa fun _ a9=>Ac 5 fun X al=>?_;simp only[go_sem,b,tyC,tyC,tyC,ha1];refine a9 (Aj (Aq (ac (Aa fun _ aa=>?_))));have:k=e.sigs.length:=by omega
      subst this;refine Ac 2 fun _ _=>?_;simp only[go_sem];refine aa (Ah ?_);subst hr hw;refine DK [⟨a,i,0⟩] rfl ?_;simp only[go_sem,Eh,u,ha0.symm,ha1.symm];exact Co.refl _
theorem Qp (p:Prg) (h:smPr p) (x:Ty) (hx:smTy x) (g d:Nat) :
    ACalls E 92 [AZ p,AC x] [] g d (.own ⟨g,d,1⟩ (Cc p x).length) [(⟨g,d,1⟩,.arr 46 7 ((Cc p x).map AH))]:=by
  have af:=((Bi x).1 hx)
  have Q:=h.1.1;have he:Cc p x=mthI p x p.decls.length:=by simp[Cc,mthI]
  generalize S:(D.own ⟨g,d,1⟩ (Cc p x).length)=R;generalize U:([(⟨g,d,1⟩,.arr 46 7 ((Cc p x).map AH))]:Sto)=W;refine Ax 52 Tryz.call92 Tryz.func92 ?_;simp only[go_sem];refine Aa fun _ Y=>Ac 3 fun c _=>?_;simp only[go_sem];refine Y (Aa fun _ a1=>Ac 1 fun _ _=>?_);simp only[go_sem];refine a1 (Aa fun _ a2=>Aa fun _ a3=>Ac 1 fun _ _=>?_);simp only[go_sem];refine a3 (Ai ?_);refine Bh 5 46 7 rfl fun N ab=>?_;have M:N≠c:=Ar ab 3 0 (by simp[go_sem]);refine Ay (fun m s=>∃ k a i n,k≤p.decls.length∧m=p.decls.length - k∧n=(mthI p x k).length∧a≠c ∧
      Le { env:=[(2,.ptr ⟨c,2,0⟩ 0),(3,.ptr ⟨c,3,0⟩ 0),(6,dN k),(5,.own ⟨a,i,0⟩ n)],
           σ:=[(⟨c,2,0⟩,.box 30 (prC p)),(⟨c,3,0⟩,.box 25 (tyC x)),(⟨a,i,0⟩,.arr 46 7 ((mthI p x k).map AH))] } s) p.decls.length ?_ ?_
  · have h0:mthI p x 0=[]:=by simp[mthI,Cz]
    refine ⟨0,N,0,0,dX _,rfl,by rw[h0]; rfl,M,Ao ?_⟩;simp only[go_sem,h0,M,M.symm,tyC];trivial
  · rintro m s ⟨k,a,i,n,hk,rfl,t,ha0,P⟩;refine Az P ?_;clear P;by_cases e:k < p.decls.length
    · have ai:=Zk p x k;have l:=XJ p x k e;have aa:=getM (f:=Ce) e;obtain ⟨T,ae⟩:=Vo h e;refine Aa fun _ a4=>Aa fun _ a5=>Ac 5 fun X a9=>?_;simp only[go_sem,tyC,e,ha0];refine a5 (Al (Ae (a4 (Aa fun _ w=>Ai (Aa fun _ a6=>Ac 7 fun F K=>?_)))));simp only[go_sem,aa,ha0];refine a6 (Aa fun _ y=>?_);have j:F≠a:=Ar K i 0 (by simp[go_sem,ha0.symm]);have b:F≠c:=Ar K 3 0 (by simp[go_sem]);have b:F≠c:=Ar K 2 0 (by simp[go_sem]);cases v:Pv p x k p.decls[k] with
      | true =>
        obtain ⟨u,z⟩:=Zl e v;rw[v,if_pos rfl] at l;have A:CR p x p.decls[k].sig.name=some k:=of_decide_eq_true v;refine Am fun G L ag V r I=>Af 16 r ?_;simp only[go_sem,u,z,ha0,j.symm,b,b.symm];refine Ak r (GC p x p.decls[k].sig.name Q _ _) ?_;refine Ad 3 r ?_;simp only[go_sem,A,optI];refine I (y (Al (AF 10 fun H O _ _ o a7=>Av 3 o ?_)));simp only[go_sem,j.symm,b.symm];refine Aw o (Fk _ T _ _) ?_;refine Av 4 o ?_;simp only[go_sem,ha0,j.symm,b,b.symm];refine Aw o (HD p.decls[k].vars x.args ae af.2.2 _ (JS _ T) _ _) ?_;refine Ap 1 o ?_;simp only[go_sem];refine Af 0 o ?_
        simp only[go_sem];refine AG o rfl rfl rfl rfl rfl es43 sz46 by46 ze46 rfl (by decide) ?_;simp only[go_sem,ha0.symm,j];first | refine ⟨⟨by omega,by omega⟩,?_⟩ | skip
        refine Ad 1 o ?_;simp only[go_sem];refine a7 (w ?_);have B:H≠c:=Ar O 3 0 (by simp[go_sem,b]);have B:H≠c:=Ar O 2 0 (by simp[go_sem,b]);refine Ac 3 fun C J=>?_;simp only[go_sem,tyC];try simp (disch:=omega) only[Au]
        refine ⟨_,?_,k + 1,H,50,n + 1,e,rfl,by rw[l,dQ,t]; rfl,B,Ao ?_⟩
        · omega
        simp only[go_sem,l,b,B,B.symm];exact ⟨⟨by omega,t.symm⟩,rfl⟩
      | false =>
        rw[v,if_neg (by simp)] at l;have A:¬ CR p x p.decls[k].sig.name=some k:=of_decide_eq_false v;by_cases u:p.decls[k].kind=3
        · by_cases z:p.decls[k].name=x.name
          · have ho:¬ optI (CR p x p.decls[k].sig.name)=(k:Int):=by
              cases hq:CR p x p.decls[k].sig.name with
              | none=>simp[optI]
              | some q=>simp[optI]; rw[hq] at A; simp at A; omega
            refine Am fun G L ag V r I=>Af 16 r ?_;simp only[go_sem,u,z,ha0,j.symm,b,b.symm];refine Ak r (GC p x p.decls[k].sig.name Q _ _) ?_;refine Ad 3 r ?_;simp only[go_sem,ho];refine I (y (Aj (Ae (w (Ac 3 fun C J=>?_)))));simp only[go_sem,tyC];try simp (disch:=omega) only[Au]
            refine ⟨_,?_,k + 1,a,i,n,e,rfl,by rw[l]; exact t,ha0,Ao ?_⟩
            · omega
            simp only[go_sem,l,ha0,ha0.symm,j,b];trivial
          · refine Ac 20 fun G L=>?_;simp only[go_sem,u,z,ha0,j.symm,b,b.symm];refine y (Aj (Ae (w (Ac 3 fun C J=>?_))));simp only[go_sem,tyC];try simp (disch:=omega) only[Au]
            refine ⟨_,?_,k + 1,a,i,n,e,rfl,by rw[l]; exact t,ha0,Ao ?_⟩
            · omega
            simp only[go_sem,l,ha0,ha0.symm,j,b];trivial
        · refine Ac 20 fun G L=>?_;simp only[go_sem,u,j.symm,b.symm];refine y (Aj (Ae (w (Ac 3 fun C J=>?_))));simp only[go_sem,tyC];try simp (disch:=omega) only[Au]
          refine ⟨_,?_,k + 1,a,i,n,e,rfl,by rw[l]; exact t,ha0,Ao ?_⟩
          · omega
          simp only[go_sem,l,ha0,ha0.symm,j,b];trivial
    · refine Aa fun _ _=>Aa fun _ Z=>Ac 5 fun X a9=>?_;simp only[go_sem,e,tyC,ha0];refine Z (Aj (Aq (a2 (Aa fun _ a0=>?_))));have:k=p.decls.length:=by omega
      subst this;refine Ac 2 fun _ _=>?_;simp only[go_sem];refine a0 (Ah ?_);rw[he] at S U;subst S U;refine DK [⟨a,i,0⟩] rfl ?_;simp only[go_sem,t,ha0.symm];exact Co.refl _
end Go.Proofs.T
namespace Go.Ab
open Go Go.RowKit Go.Proofs Go.Shelf
open Go.Sort (flatK get_flatK size_flatK blk_iff HoldsK)
structure Cell (β:Type) (k:Nat) (ok:List Value→β→Prop) where
 vs:List Value
 tag:β
 len:vs.length=k
 one:∀ v∈vs,v.oneCell'=true
 fit:ok vs tag
def Wq (P:Program) (A:World→Prop) (cmp:FuncId) (β:Type) (k:Nat) (ok:List Value→β→Prop) (cf:β→β→Int):Prop :=
 ∀ x y:Cell β k ok,∀ w,A w→Calls P cmp #[.agg x.vs.toArray,.agg y.vs.toArray] w fun e w'=>e=.returned (.int .i64 (cf x.tag y.tag))∧∃ q os',w'=Sort.grow (w.drewN q) os'
theorem Mf {w:World} {g n:Nat} {os:Array Obj} (d:Array Value):Gr w (Sort.grow (Sort.putRow id (Sort.ahead w n) g 0 d) os) (some g):=by
 refine ⟨⟨rfl,rfl,rfl,by simp,fun k a b=>?_⟩,Nat.le_add_right _ _⟩;rw[Sort.heap_grow_old _ _ (by simpa using a)];have:g≠k:=fun e=>b (by rw[e]);simp[Sort.putRow,Sort.mapBlock,Sort.ahead,gN,this]
theorem Zn {w:World} {g n:Nat} {os:Array Obj} {cur:Array Value} {e:TypeId} {fr:Nat × Nat} (d:Array Value) (hb:w.heap[g]?=some (.cells cur e fr)) :
  (Sort.grow (Sort.putRow id (Sort.ahead w n) g 0 d) os).heap[g]?=some (.cells (Sort.putCells id 0 d cur) e fr):=by
 have a:g < w.heap.size:=(fa.1 hb).1;rw[Sort.heap_grow_old _ _ (by simpa using a)];simp[Sort.putRow,Sort.mapBlock,Sort.ahead,gN,hb,Sort.onCells]
theorem Zo (cur d:Array Value) (h:d.size≤cur.size):(Sort.putCells id 0 d cur).toList.take d.size=d.toList:=by
 apply gx;intro j;by_cases a:j < d.size
 ·rw[gF a,fk];simp[Sort.putCells,a,show j < cur.size by omega]
 ·rw[List.getElem?_take_eq_none (by omega),fh (by simp; omega)]
theorem Zp {α β:Type} [Inhabited α] [Inhabited β] {lt:β→β→Bool} (h:Sort.SWO lt) (f:α→β):Sort.SWO fun x y=>lt (f x) (f y) :=
 ⟨fun _=>h.irrefl _,fun _ _ _=>h.trans _ _ _,fun _ _ _=>h.ntrans _ _ _⟩
variable {β:Type} {k:Nat} {ok:List Value→β→Prop}
theorem Tj {α:Type} [Inhabited α] {enc:α→List Value} (hk:∀ x,(enc x).length=k) (d:Array α) (i j:Nat) (hi:i < d.size) (hj:j < k) :
  (flatK enc k d)[i * k + j]?=(enc d[i]!)[j]?:=by
 have a:i * k + j < d.size * k:=by
  have:=fw k (show i + 1≤d.size from hi); rw[fG,Nat.one_mul] at this; omega
 have b:=get_flatK enc k d _ a;have c:(i * k + j) / k=i:=(blk_iff k i _ (by omega)).1 ⟨by omega,by omega⟩;have e:(i * k + j) % k=j:=by rw[Nat.mod_eq_sub_div_mul,c]; omega
 rw[c,e] at b;rw[fD (by simpa using a),dO (by rw[hk]; exact hj)];rw[getElem!_pos (flatK enc k d) _ (by simpa using a)] at b;rw[b,getElem!_pos _ _ (by rw[hk]; exact hj)]
theorem Vs.pair {G:Gh} {w:World} {vs:Array Value} {a b:D} (h:Vs G w vs [a,b]):∃ x y,vs=#[x,y]∧V G w x a∧V G w y b:=by
 obtain ⟨l⟩:=vs;obtain ⟨d,c⟩:=h;have e : l.length=2:=d
 match l,e with
 | [x,y],_=>exact ⟨x,y,rfl,c 0 x a rfl rfl,c 1 y b rfl rfl⟩
theorem UK {E:Ctx} {f cmp:FuncId} {encB:β→D} {t:TypeId} {ρ:Ren} (L:SlLaysF0.n6 E.P ρ) (hf:ρ.f 6=f) (ht:ρ.t 24=t) (hcall:∀ xs w,(callFunc f xs).run E.P w=.ok (.enter f xs) w)
  (hag:AS E.P t=some true) (hsz:szOf E.P t=some k) (hk0:0 < k) (henc:∀ b,(encB b).cells.length=k∧(encB b).cells.all D.one=true)
  (hok:∀ G w vs b,Vs G w vs (encB b).cells→ok vs.toList b) {cf:β→β→Int} [Inhabited β] (hO:Sort.SWO (ltOf cf)) (hkeep:∀ w0 w,E.A w0→Below w0.heap.size w0 w→E.A w) (hcmp:Wq E.P E.A cmp β k ok cf) (ecmp:∀ xs w,(callFunc cmp xs).run E.P w=.ok (.enter cmp xs) w)
  {l l' : List β} (hlen:l.length < 4611686018427387904) (huniq:∀ l2:List β,l2.Perm l→l2.Pairwise (fun a b=>ltOf cf b a=false)→l2=l') (n:Nm) (g d:Nat) :
  ACalls E f [.own n l.length,.func (.func cmp) [] []] [(n,.arr t k (l.map encB))] g d (.tup []) [(n,.arr t k (l'.map encB))] where
 call:=hcall
 run w0 hA G w vs hw hvs ho hfr:=by
  obtain ⟨v,hρ,⟨xs,ae,aD⟩,aL⟩:=ho.ob n (.arr t k (l.map encB)) (by simp[get])
  -- the arguments
  have aU:∃ q a,vs=#[.slice a l.length q,.func (.func cmp) #[] #[]]∧v=.slice a l.length q:=by
   obtain ⟨a0,a1,rfl,h0,h3⟩:=hvs.pair;cases h0 with
   | own h0 =>
    rename_i a q;cases h3 with
    | @func _ fs cs _ _ J K =>
     have e3:fs=#[]:=by simpa using J
     have e4:cs=#[]:=by simpa using K
     subst e3 e4;exact ⟨q,a,rfl,by rw[hρ] at h0; exact Option.some.inj h0⟩
  obtain ⟨q,a,rfl,rfl⟩:=aU;have aq:∀ B,B=w→l=l'→∃ v G',Ending.returned (.tuple #[])=.returned v∧WF w0 G' B∧V G' B v (.tup [])∧Objs w0 G' B (get [(n,.arr t k (l'.map encB))])∧Step (rsv g (some d)) G w (get [(n,.arr t k (l.map encB))]) G' B (get [(n,.arr t k (l'.map encB))]):=by
   rintro B rfl rfl;exact ⟨_,G,rfl,hw,.tup rfl (fun i c d h=>by simp at h),ho,.refl _ _ _ _⟩
  by_cases ad:l.length=0
  ·have hl:l=[]:=h8.1 ad;subst hl;have:=huniq [] (List.Perm.refl _) .nil;subst this;refine ((AnyF.slices_SortFunc_none L a q (.func (.func cmp) #[] #[]) w).mono ?_:Calls E.P (ρ.f 6) _ w _) |> fun h=>by rw[hf] at h; exact h
   rintro e B ⟨rfl,rfl⟩;exact aq _ rfl rfl
  ·rcases ae.2 with ⟨_,C⟩ | ⟨s,b0,I,C,a4,S,Z,aA,a6,ag⟩
   ·exact absurd (by simpa using C) ad
   ·have aJ:(l.map encB).length=l.length:=by simp
    rw[aJ] at Z ag ae C;cases C;have aH:l.length * k≤q * k:=fw k Z
    -- the elements
    have aC:∀ i:Fin l.length,∃ c:Cell β k ok,c.tag=l[i]∧c.vs=(I.toList.drop (i * k)).take k∧Vs G w c.vs.toArray (encB l[i]).cells:=by
     intro i;have z:(i:Nat) * k + k≤l.length * k:=by
      have:=fw k (show (i:Nat) + 1≤l.length from i.2); rw[fG,Nat.one_mul] at this; exact this
     obtain ⟨_,aR⟩:=aD i (encB l[i]) (by simp);have ah:((I.toList.drop (i * k)).take k).length=k:=by simp; omega
     have aE:∀ j,j < k→((I.toList.drop (i * k)).take k)[j]?=xs[(i:Nat) * k + j]?:=by
      intro j p;rw[← ag,gF p,eR,gF (by omega)]
     have X:Vs G w ((I.toList.drop (i * k)).take k).toArray (encB l[i]).cells:=by
      refine ⟨by simp only[gb,ah,(henc _).1],fun j c o a5 a7=>?_⟩;have p:j < k:=by
       have:=(dW.1 a7).1;rw[(henc _).1] at this; exact this
      obtain ⟨x,hx,aV⟩:=aR j o a7;rw[eA,aE j p,hx] at a5;cases a5;exact aV
     refine ⟨⟨_,l[i],ah,fun v hv=>?_,by simpa using hok G w _ _ X⟩,rfl,rfl,X⟩;obtain ⟨j,p,rfl⟩:=eT.1 hv;have H : j < (encB l[i]).cells.length:=by rw[(henc _).1]; omega
     exact (X.2 j _ _ (by rw[eA]; exact dO p) (dO H)).one (eL.1 (henc l[i]).2 _ (dP H))
    have az:=Classical.axiomOfChoice aC;obtain ⟨F,Q⟩:=az
    letI:Inhabited (Cell β k ok):=⟨F ⟨0,by omega⟩⟩
    let d0:Array (Cell β k ok):=Array.ofFn F
    have u:d0.size=l.length:=by simp[d0]
    have aB:∀ i (h:i < l.length),d0[i]! = F ⟨i,h⟩:=fun i h=>by
     rw[getElem!_pos d0 i (by rw[u]; exact h)];simp[d0]
    have hH:HoldsK Cell.vs k w s 0 d0:=by
     intro j p;have H : j < d0.size * k:=by simpa using p
     have ab:j % k < k:=Nat.mod_lt _ hk0;have Y:j / k < l.length:=by rw[← u]; exact il (by rw[gf]; exact H)
     refine ⟨?_,by simp[World.frozen?,S]⟩;have e:j / k * k + j % k=j:=Nat.div_add_mod' j k;have O:=Tj (k:=k) (enc:=Cell.vs) (fun x=>x.len) d0 (j / k) (j % k) (by rw[u]; exact Y) ab;rw[e] at O;rw[getElem!_pos _ j (by simpa using H)];simp only[World.cell?,S,eN,hW,fb,if_false,id];rw[← fD,O,aB _ Y,(Q ⟨j / k,Y⟩).2.1,gF ab,eR];simp only[e,fk]
    have ax:Sort.SWO (ltOf fun x y:Cell β k ok=>cf x.tag y.tag):=Zp hO Cell.tag;have ay:s < w.heap.size:=(fa.1 S).1;have C:=AnyQ.slices_SortFunc L k (fun w=>by rw[ht]; exact ER hag) (fun w=>by rw[ht]; exact Ck hsz) Cell.vs (fun x=>x.len) (fun x=>x.one) (fun x y=>cf x.tag y.tag) ax cmp #[] s 0 q d0 w ecmp
     (fun m W dk _ x y=>by
      have h9:=hcmp x y (sortWorldK Cell.vs k w s 0 m dk W) (hkeep w0 _ hA (hw.below.toBelow.grown (Mf _).togrownBy hw.below.size (fun b R=>by cases R; exact a4)));simpa using h9) hH ay (by rw[u]; exact hlen)
    rw[hf,u] at C;refine C.mono ?_;rintro e B ⟨rfl,o,m,W,⟨aO,_,U⟩,aS,rfl⟩;have M:o.size=l.length:=aO.trans u;have af:(o.toList.map Cell.tag)=l':=by
     refine huniq _ ?_ ?_
     ·have J:(d0.extract 0 l.length).toList=d0.toList:=by simp[← u]
      have K:(o.extract 0 l.length).toList=o.toList:=by simp[← M]
      rw[J,K] at U;have:=U.map Cell.tag;refine this.trans (List.Perm.of_eq ?_);apply gx;intro i;by_cases z:i < l.length
      ·simp[d0,z,(Q ⟨i,z⟩).1]
      ·rw[fh (by simp[d0]; omega),fh (by omega)]
     ·rw[gT];intro i j z p aF;have T : i < o.size:=by simpa using z
      have H : j < o.size:=by simpa using p
      have:=aS i j (dX _) aF (by omega);rw[getElem!_pos o i T,getElem!_pos o j H] at this;simpa [ltOf] using this
    have aK:∀ i,i < l.length→∃ j:Fin l.length,o[i]! = F j:=by
     intro i z;have J:(d0.extract 0 l.length).toList=d0.toList:=by simp[← u]
     have K:(o.extract 0 l.length).toList=o.toList:=by simp[← M]
     rw[J,K] at U;have O:o[i]! ∈ o.toList:=by
      rw[getElem!_pos o i (by omega)];simp
     have h2:=U.mem_iff.1 O;obtain ⟨j,p⟩:=(List.mem_ofFn).1 (by simpa [d0] using h2);exact ⟨j,p.symm⟩
    have N : l'.length=l.length:=by rw[← af]; simp[M]
    have aa:Gr w (sortWorldK Cell.vs k w s 0 m o W) (blk (.slice (some ⟨s,0,none⟩) l.length q)):=Mf _;have a9:(flatK Cell.vs k o).size=l.length * k:=by simp[M]
    have aM:¬ G.F s:=aL s rfl;have aN:OV w0 G (sortWorldK Cell.vs k w s 0 m o W) (.slice (some ⟨s,0,none⟩) l.length q) (.arr t k (l'.map encB)):=by
     refine ⟨(flatK Cell.vs k o).toList,⟨by simp[M,N],.inr ⟨s,q,_,by simp[N],a4,Zn _ S,by simpa [N] using Z,aA,by simp[Sort.putCells,a6],?_⟩⟩,?_⟩
     ·have:=Zo I (flatK Cell.vs k o) (by rw[a9,a6]; exact aH);rw[a9] at this;simpa [N] using this
     ·intro i r hr;have z:i < l.length:=by
       have:=(dW.1 hr).1;simpa [N] using this
      have aQ : r=encB o[i]!.tag:=by
       rw[← af] at hr;have T : i < o.size:=by omega
       rw[getElem!_pos o i T];simpa [T] using hr.symm
      subst aQ;refine ⟨(henc _).1,fun j dd a8=>?_⟩;have p:j < k:=by
       have:=(dW.1 a8).1;rw[(henc _).1] at this; exact this
      obtain ⟨jj,aG⟩:=aK i z;have a3:=(Q jj).2.2;rw[← (Q jj).1,← aG] at a3;have ac:j < o[i]!.vs.length:=by rw[o[i]!.len]; exact p
      refine ⟨o[i]!.vs[j],?_,?_⟩
      ·rw[fk,Tj (fun x=>x.len) o i j (by omega) p,dO ac]
      ·refine (a3.2 j _ dd (by simp[ac]) a8).mono (fun _ h=>h) (fun b R=>aa.block b (hw.lt b R) fun e=>?_) (fun _ _ h=>h);simp only[blk,Option.some.injEq] at e;exact aM (e ▸ R)
    obtain ⟨q1,q2,q3⟩:=EV hw ho (n:=n) (ob:=.arr t k (l.map encB)) (by simp[get]) hρ aa aN;have aP:Kp.put (get [(n,.arr t k (l.map encB))]) n (.arr t k (l'.map encB))=get [(n,.arr t k (l'.map encB))]:=by
     funext m
     simp only[Kp.put,get];split <;> simp
    rw[aP] at q2 q3;exact ⟨_,G,rfl,q1,.tup rfl (fun i c d h=>by simp at h),q2,q3.weaken fun _ _ h=>h.elim⟩
end Go.Ab
