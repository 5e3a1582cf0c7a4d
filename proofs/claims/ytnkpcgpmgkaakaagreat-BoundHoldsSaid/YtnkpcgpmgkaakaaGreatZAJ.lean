/- A part of the proof: ZAJ. -/
import Derived.Test.YtnkpcgpmgkaakaaGreatZAI
namespace Go.Proofs.T
open Go Go.Ab Go.RowKit
def isDe (d:Dec) (n:Str):Bool:=decide ((d.kind=1∨d.kind=2)∧d.name=n)
def isMe (d:Dec) (n m:Str):Bool:=decide (d.kind=3∧d.name=n∧d.sig.name=m)
def CF (p:Prg) (n:Str):Option Nat:=p.decls.findIdx? fun d=>isDe d n
def DP (p:Prg) (n m:Str):Option Nat:=p.decls.findIdx? fun d=>isMe d n m
theorem Dy (p:Prg) (n:Str) (hl:p.decls.length≤2000) (g d:Nat):ACalls E 90 [AZ p,encS n] [] g d (dI (optI (CF p n))) []:=by
 unfold CF;refine Ax 40 Tryz.call90 Tryz.func90 ?_;simp only[go_sem];refine Aa fun _ A=>Ac 2 fun u _=>?_;simp only[go_sem];refine A (Aa fun _ D=>Aa fun _ F=>Ac 1 fun _ _=>?_);simp only[go_sem];refine F (Ai ?_);refine Ay (fun m s=>∃ k,k≤p.decls.length∧m=p.decls.length - k∧List.findIdx? (fun d=>isDe d n) p.decls=(List.findIdx? (fun d=>isDe d n) (p.decls.drop k)).map (· + k) ∧
    Le { env:=[(1,encS n),(2,.ptr ⟨u,2,0⟩ 0),(5,dN k)],σ:=[(⟨u,2,0⟩,.box 30 (prC p))] } s) p.decls.length ?_ ?_
 ·refine ⟨0,dX _,rfl,by simp,Ao ?_⟩;simp only[go_sem];trivial
 ·rintro P s ⟨k,N,rfl,a,x⟩;refine Az x ?_;clear x;by_cases h:k < p.decls.length
  ·have M:=a;rw[MX _ _ _ h] at a;refine Aa fun _ G=>Aa fun _ H=>Ac 5 fun y K=>?_;simp only[go_sem,h];refine H (Al (Ae (G (Aa fun _ t=>Ai (Aa fun _ i=>?_)))));cases l:isDe p.decls[k] n with
   | true =>
    rw[l,if_pos rfl] at a;have o:(p.decls[k].kind=1∨p.decls[k].kind=2)∧p.decls[k].name=n:=of_decide_eq_true l;obtain ⟨O,b⟩:=o;by_cases c:p.decls[k].kind=1
    ·refine Ac 26 fun j q=>?_;simp only[go_sem,c,b,getM h];refine i (Al (Aa fun _ I=>Ac 2 fun z L=>?_));simp only[go_sem];refine I (Ah ?_);rw[a];refine Ag ?_;simp only[go_sem];exact Co.of_eq (by simp[optI])
    ·have f:p.decls[k].kind=2:=by omega
     have r:¬ ((2:Int)=1):=by decide
     refine Ac 26 fun j q=>?_;simp only[go_sem,f,r,b,getM h];refine i (Al (Aa fun _ J=>Ac 2 fun z L=>?_));simp only[go_sem];refine J (Ah ?_);rw[a];refine Ag ?_;simp only[go_sem];exact Co.of_eq (by simp[optI])
   | false =>
    rw[l,if_neg (by simp)] at a;have o:¬ ((p.decls[k].kind=1∨p.decls[k].kind=2)∧p.decls[k].name=n):=of_decide_eq_false l;by_cases c:p.decls[k].kind=1
    ·have b:¬ p.decls[k].name=n:=fun e=>o ⟨.inl c,e⟩;refine Ac 26 fun j q=>?_;simp only[go_sem,c,b,getM h];refine i (Aj (Ae (t (Ac 3 fun v w=>?_))));simp only[go_sem];try simp (disch:=omega) only[Au]
     refine ⟨_,?_,k + 1,h,rfl,?_,Ao ?_⟩
     ·omega
     ·rw[a]; simp[gp,fq,gq,f5]
     simp only[go_sem];omega
    ·by_cases f:p.decls[k].kind=2
     ·have b:¬ p.decls[k].name=n:=fun e=>o ⟨.inr f,e⟩;have r:¬ ((2:Int)=1):=by decide
      refine Ac 26 fun j q=>?_;simp only[go_sem,f,r,b,getM h];refine i (Aj (Ae (t (Ac 3 fun v w=>?_))));simp only[go_sem];try simp (disch:=omega) only[Au]
      refine ⟨_,?_,k + 1,h,rfl,?_,Ao ?_⟩
      ·omega
      ·rw[a]; simp[gp,fq,gq,f5]
      simp only[go_sem];omega
     ·refine Ac 26 fun j q=>?_;simp only[go_sem,c,f,getM h];refine i (Aj (Ae (t (Ac 3 fun v w=>?_))));simp only[go_sem];try simp (disch:=omega) only[Au]
      refine ⟨_,?_,k + 1,h,rfl,?_,Ao ?_⟩
      ·omega
      ·rw[a]; simp[gp,fq,gq,f5]
      simp only[go_sem];omega
  ·rw[DF p.decls k (by omega)] at a;refine Aa fun _ _=>Aa fun _ B=>Ac 5 fun y K=>?_;simp only[go_sem,h];refine B (Aj (Aq (D (Aa fun _ C=>Ac 1 fun _ _=>?_))));simp only[go_sem];refine C (Ah ?_);rw[a];refine Ag ?_;simp only[go_sem];exact Co.of_eq (by simp[optI])
theorem Ma (p:Prg) (n q:Str) (hl:p.decls.length≤2000) (g d:Nat):ACalls E 122 [AZ p,encS n,encS q] [] g d (dI (optI (DP p n q))) []:=by
 unfold DP;refine Ax 44 Tryz.call122 Tryz.func122 ?_;simp only[go_sem];refine Aa fun _ z=>Ac 2 fun u _=>?_;simp only[go_sem];refine z (Aa fun _ C=>Aa fun _ D=>Ac 1 fun _ _=>?_);simp only[go_sem];refine D (Ai ?_);refine Ay (fun m s=>∃ k,k≤p.decls.length∧m=p.decls.length - k∧List.findIdx? (fun d=>isMe d n q) p.decls=(List.findIdx? (fun d=>isMe d n q) (p.decls.drop k)).map (· + k) ∧
    Le { env:=[(1,encS n),(2,encS q),(3,.ptr ⟨u,3,0⟩ 0),(7,dN k)],σ:=[(⟨u,3,0⟩,.box 30 (prC p))] } s) p.decls.length ?_ ?_
 ·refine ⟨0,dX _,rfl,by simp,Ao ?_⟩;simp only[go_sem];trivial
 ·rintro L s ⟨k,K,rfl,a,x⟩;refine Az x ?_;clear x;by_cases h:k < p.decls.length
  ·have J:=a;rw[MX _ _ _ h] at a;refine Aa fun _ F=>Aa fun _ G=>Ac 5 fun y I=>?_;simp only[go_sem,h];refine G (Al (Ae (F (Aa fun _ l=>Ai (Aa fun _ f=>?_)))));cases i:isMe p.decls[k] n q with
   | true =>
    rw[i,if_pos rfl] at a;have o:p.decls[k].kind=3∧p.decls[k].name=n∧p.decls[k].sig.name=q:=of_decide_eq_true i;obtain ⟨b,c,t⟩:=o;refine Ac 28 fun j r=>?_;simp only[go_sem,b,c,t,getM h];refine f (Al (Aa fun _ H=>Ac 2 fun _ _=>?_));simp only[go_sem];refine H (Ah ?_);rw[a];refine Ag ?_;simp only[go_sem];exact Co.of_eq (by simp[optI])
   | false =>
    rw[i,if_neg (by simp)] at a;have o:¬ (p.decls[k].kind=3∧p.decls[k].name=n∧p.decls[k].sig.name=q):=of_decide_eq_false i;by_cases b:p.decls[k].kind=3
    ·by_cases c:p.decls[k].name=n
     ·have t:¬ p.decls[k].sig.name=q:=fun e=>o ⟨b,c,e⟩;refine Ac 28 fun j r=>?_;simp only[go_sem,b,c,t,getM h];refine f (Aj (Ae (l (Ac 3 fun v w=>?_))));simp only[go_sem];try simp (disch:=omega) only[Au]
      refine ⟨_,?_,k + 1,h,rfl,?_,Ao ?_⟩
      ·omega
      ·rw[a]; simp[gp,fq,gq,f5]
      simp only[go_sem];omega
     ·refine Ac 28 fun j r=>?_;simp only[go_sem,b,c,getM h];refine f (Aj (Ae (l (Ac 3 fun v w=>?_))));simp only[go_sem];try simp (disch:=omega) only[Au]
      refine ⟨_,?_,k + 1,h,rfl,?_,Ao ?_⟩
      ·omega
      ·rw[a]; simp[gp,fq,gq,f5]
      simp only[go_sem];omega
    ·refine Ac 28 fun j r=>?_;simp only[go_sem,b,getM h];refine f (Aj (Ae (l (Ac 3 fun v w=>?_))));simp only[go_sem];try simp (disch:=omega) only[Au]
     refine ⟨_,?_,k + 1,h,rfl,?_,Ao ?_⟩
     ·omega
     ·rw[a]; simp[gp,fq,gq,f5]
     simp only[go_sem];omega
  ·rw[DF p.decls k (by omega)] at a;refine Aa fun _ _=>Aa fun _ A=>Ac 5 fun y I=>?_;simp only[go_sem,h];refine A (Aj (Aq (C (Aa fun _ B=>Ac 1 fun _ _=>?_))));simp only[go_sem];refine B (Ah ?_);rw[a];refine Ag ?_;simp only[go_sem];exact Co.of_eq (by simp[optI])
end Go.Proofs.T
namespace Go.Ab
open Go Go.RowKit
section
variable {E:Ctx} {N:Nat} {l:List Oper} {g:Nat} {st:St}
def Ft (N:Nat) (l:List Oper) (nq:Nat):Bool :=
 EJ N l && FD 0 l && Fp (JR (masks l []) l) 0 l && Fp (fun i _=>decide (i < nq + 1) || (List.range i).all fun j=>bit (masks l []) i j) 0 l
structure Inv2 (w0:World) (E:Ctx) (N:Nat) (l:List Oper) (g:Nat) (st:St) (tr:List (D × Sto)) (G1:Gh) (w1:World) (L:Nat→Bool) (τ0 τ:Kp) (G:Gh) (w:World) (a:Act):Prop where
 size:a.tmps.size=N
 defers:Marks G w a.defers
 wf:WF w0 G w
 old:∀ t d,lk st.env t=some d→(∀ (j:Nat) o,L j=true→l[j]?=some o→o.dst≠some t)→t < N∧V G w (a.tmps.getD t undef) d
 new:∀ (j:Nat) o t v nw,L j=true→l[j]?=some o→o.dst=some t→tr[j]?=some (v,nw)→V G w (a.tmps.getD t undef) v
 objs:Objs w0 G w (Kp.or (kapp L 0 tr (get st.σ)) τ)
 fresh:g < G.top∧∀ (j:Nat) o d,L j=false→l[j]?=some o→o.dst=some d→∀ q,G.ρ ⟨g,d,q⟩=none
 step:Step (fun n=>n.g=g) G1 w1 (Kp.or (get st.σ) τ0) G w (Kp.or (kapp L 0 tr (get st.σ)) τ)
 down:Down l (fun i=>L i=true)
theorem Rg {w0:World} (hA:E.A w0) {nq:Nat} (hok:Ft N l nq=true) {tr:List (D × Sto)} {env' : List (Nat × D)} (htr:QTrace E l g st.σ (l.take nq) st.env tr env') (hσg:∀ i j,get st.σ ⟨g,i,j⟩=none)
  {G1:Gh} {w1:World} {L:Nat→Bool} {τ0 τ:Kp} {G:Gh} {w:World} {a:Act} (hI:Inv2 w0 E N l g st tr G1 w1 L τ0 τ G w a) {i:Nat} {o:Oper} (hi:l[i]?=some o) (hin:i < nq) (hL:L i=false) (hready:∀ e∈o.after,Region.binds .any e=true→L e.on=true)
  {L' : Nat→Bool} (hL' : L' i=true) (hLo:∀ j,j≠i→L' j=L j) {Q' : Exit→Act→World→Prop} {K:Act→World→Prop} (hK:∀ G' w' a',Inv2 w0 E N l g st tr G1 w1 L' τ0 τ G' w' a'→K a' w'):∀ r,wpOpIn (Fr r) 0 E.P l.toArray Q' i K a w:=by
 intro rd;simp only[Ft,ej] at hok;obtain ⟨⟨⟨hd,hE⟩,ay⟩,_⟩:=hok;obtain ⟨a4,ai⟩:=Cq hd;have a2:=BX ay i o hi;simp only[eN] at a2;have hq:(l.take nq)[i]?=some o:=by rw[eb,if_pos hin]; exact hi
 obtain ⟨ac,v,U,aC,a7,aB⟩:=htr.split i o hq
 -- a temporary that the operation looks at holds what it did in the order of the text
 have a6:∀ t d,t∈looks l o→lk ac t=some d→t < a.tmps.size∧V G w (a.tmps.getD t undef) d:=by
  intro t d Y J;rw[hI.size];rcases aC.env t with ⟨j,k,v',W,H,O,z,k4⟩ | ⟨H,O⟩
  ·rw[k4] at J;cases J;have s:j < i∧l[j]?=some k:=by
    rw[eb] at H;split at H
    ·rename_i Q;rw[eb] at H;split at H
     ·exact ⟨Q,H⟩
     ·cases H
    ·cases H
   have I:=CC a2 Y s.2 O (by omega);rw[if_pos s.1] at I;obtain ⟨m,hm,a0⟩:=BJ I;have b:=anc hE hI.down i o hi hready j m hm a0;have aE : tr[j]?=some (d,W):=by
    rw[eb] at z;split at z
    ·exact z
    ·cases z
   exact ⟨ai k (ew s.2) t O,hI.new j k t d W b s.2 O aE⟩
  ·rw[O] at J;refine hI.old t d J fun j k b c B=>?_;have s:¬ j < i:=fun h=>H j k (by rw[eb,if_pos h,eb,if_pos (by omega)]; exact c) B;have X:j≠i:=fun e=>by subst e; rw[hL] at b; cases b
   have I:=CC a2 Y c B X;rw[if_neg s] at I;obtain ⟨m,hm,a0⟩:=BJ I;have:=anc hE hI.down j k c (hI.down j k c b) i m hm a0;rw[hL] at this;cases this
 have av:∀ d,o.dst=some d→d < a.tmps.size:=fun d a1=>by rw[hI.size]; exact ai o (ew hi) d a1
 have aP:=htr.length;have aO:i < (l.take nq).length:=(dW.1 hq).1
 -- Z of different operations' new things are different
 have Z:∀ (j:Nat) p,tr[j]?=some p→∀ q∈p.2,q.1.g=g∧∃ k,l[j]?=some k∧k.dst=some q.1.i:=by
  intro j p C q T;have ax:j < (l.take nq).length:=by have:=(dW.1 C).1; omega
  have S:(l.take nq)[j]?=some (l.take nq)[j]:=dO ax;obtain ⟨_,v',W,_,O,z⟩:=htr.split j _ S;rw[C] at O;cases O;have az : l[j]?=some (l.take nq)[j]:=by
   rw[eb] at S;split at S
   ·exact S
   ·cases S
  rcases z with ⟨_,_,z⟩ | ⟨_,_,z⟩
  ·exact ⟨(z q T).1,_,az,(z q T).2⟩
  ·simp only at T;rw[z] at T;cases T
 have ar:∀ (j:Nat) p,tr[j]?=some p→0 + j≠i→Dis (get U) (get p.2):=by
  intro j p C X n;cases Q:get U n with
  | none=>exact .inl rfl
  | some x =>
   cases R:get p.2 n with
   | none=>exact .inr rfl
   | some y =>
    obtain ⟨_,o1,q1,q2⟩:=Z i _ a7 (n,x) (AQ Q);obtain ⟨_,o2,q3,q4⟩:=Z j _ C (n,y) (AQ R);exact absurd (Cf a4 i j o1 o2 _ q1 q3 q2 q4) (by omega)
 have am:=KG hL hL' hLo 0 tr (get st.σ) v U (dX _) (by simpa using a7) ar
 -- what follows once a value is there
 have af:∀ G' w' x,WF w0 G' w'→V G' w' x v→Objs w0 G' w' (Kp.or (kapp L' 0 tr (get st.σ)) τ)→Step (rsv g o.dst) G w (Kp.or (kapp L 0 tr (get st.σ)) τ) G' w' (Kp.or (kapp L' 0 tr (get st.σ)) τ)→K (a.put o.dst x) w':=by
  intro G' w' x aa hv ho M;have ao:∀ t,o.dst≠some t→(a.put o.dst x).tmps.getD t undef=a.tmps.getD t undef:=by
   intro t Y;cases au:o.dst with
   | none=>rfl
   | some d =>
    simp only[Act.put,er,eW];rw[if_neg (fun e=>Y (by rw[au,e]))]
  refine hK G' w' _ ⟨by rw[EB,hI.size],by cases o.dst <;> exact hI.defers.step M hI.wf hI.objs,aa,fun t d J aj=>?_,fun j k t v' W b c B C=>?_,ho,⟨eV hI.fresh.1 M.top,fun j k d b c B q=>?_⟩,hI.step.trans (M.weaken fun n _ u=>u.1),fun j k c b e F I=>?_⟩
  ·have X:o.dst≠some t:=aj i o hL' hi;rw[ao t X];obtain ⟨Q,R⟩:=hI.old t d J fun j k b c=>by
    by_cases s:j=i
    ·subst s; rw[hL] at b; cases b
    ·exact aj j k (by rw[hLo j s]; exact b) c
   exact ⟨Q,R.step M hI.wf hI.objs⟩
  ·by_cases s:j=i
   ·subst s;rw[hi] at c;cases c;rw[a7] at C;cases C;have:=av t B;simp only[B,Act.put,er,eW];simp only[↓reduceIte,this,eX];exact hv
   ·rw[hLo j s] at b;rw[ao t fun e=>s (Cf a4 j i k o t c hi B e)];exact (hI.new j k t v' W b c B C).step M hI.wf hI.objs
  ·have s:j≠i:=fun e=>by subst e; rw[hL'] at b; cases b
   rw[hLo j s] at b;exact M.fresh hI.fresh.1 (hI.fresh.2 j k d b c B q) fun ⟨_,F⟩=>s (Cf a4 j i k o d c hi B F)
  ·have keep:L e.on=true→L' e.on=true:=fun h=>by
    by_cases h' : e.on=i
    ·rw[h']; exact hL'
    ·rw[hLo _ h']; exact h
   by_cases s:j=i
   ·subst s;rw[hi] at c;cases c;exact keep (hready e F I)
   ·simp only at b;rw[hLo j s] at b;exact keep (hI.down j k c b e F I)
 unfold wpOpIn;simp only[eA,hi];rcases aB with ⟨hw,aA,_⟩ | ⟨hw,rfl,rfl⟩
 ·rw[if_pos (Dn hw a6)];have ak:∀ n x,get st.σ n=some x→kapp L 0 tr (get st.σ) n=some x:=by
   intro n x u;rw[GY 0 tr _ fun p C=>?_]
   ·exact u
   ·cases hg:get p.2 n with
    | none=>rfl
    | some y =>
     obtain ⟨j,c⟩:=fg.1 C;have:=(Z j p c (n,y) (AQ hg)).1;obtain ⟨ng,ni,nj⟩:=n;have aN : ng=g:=this;subst aN;rw[hσg] at u;cases u
  have al:∀ n x,get st.σ n=some x→Kp.or (kapp L 0 tr (get st.σ)) τ n=some x:=fun n x u=>by simp[Kp.or,ak n x u]
  refine aA w0 hA G w a hI.wf (fun x hx=>?_) (hI.objs.sub al) (fun d a1=>⟨hI.fresh.1,fun j=>hI.fresh.2 i o d hL hi a1 j⟩) K Q' (fun G' w' x aa hv ho M=>?_) rd
  ·cases x with
   | tmp t =>
    simp only[Act.eval,Ab.ev];cases J:lk ac t with
    | none=>exact .any _
    | some d=>exact (a6 t d (by unfold looks; exact eI _ (fJ.2 ⟨.tmp t,by simpa using hx,rfl⟩)) J).2
   | const v=>exact V.ofV G w v
   | global g=>exact E.hglob w0 hA G w hI.wf g
   | func f=>exact .func rfl rfl (by simp) (by simp)
  ·obtain ⟨f1,f2⟩:=frame (κs:=get st.σ) (τ:=fun n=>if get st.σ n=none then Kp.or (kapp L 0 tr (get st.σ)) τ n else none) hI.wf hI.objs al (fun n x u=>by
    split at u
    ·rename_i h0; exact ⟨u,h0⟩
    ·cases u) M ho
   have F:Kp.or (Kp.or (get U) (get st.σ)) (fun n=>if get st.σ n=none then Kp.or (kapp L 0 tr (get st.σ)) τ n else none)=Kp.or (kapp L' 0 tr (get st.σ)) τ:=by
    rw[am]
    funext n
    simp only[Kp.or];cases Q:get U n with
    | some y=>simp
    | none =>
     simp only[fM];cases R:get st.σ n with
     | none=>simp
     | some y=>simp[ak n y R]
   rw[F] at f1 f2;exact af G' w' x aa hv f1 f2
 ·rw[Dn hw a6,if_neg (by simp)];refine ⟨fun f _=>Fi rd f,?_⟩;have F:kapp L' 0 tr (get st.σ)=kapp L 0 tr (get st.σ):=by
   rw[am]
   funext n
   simp[Kp.or,get]
  exact af G w undef hI.wf (.val _) (by rw[F]; exact hI.objs) (by rw[F]; exact .refl _ _ _ _)
theorem Vn {a b:Kp} (h:Dis a b):Kp.or a b=Kp.or b a:=by
 funext n
 unfold Kp.or;rcases h n with h | h <;> simp[h]
theorem XG {w0:World} (hA:E.A w0) {nq:Nat} (hok:Ft N l nq=true) {tr:List (D × Sto)} {env' : List (Nat × D)} (htr:QTrace E l g st.σ (l.take nq) st.env tr env') {n:Nm} {ob0 ob1:Ob} (hng:n.g≠g) (hnσ:get st.σ n=none)
  {G1:Gh} {w1:World} {L:Nat→Bool} {G:Gh} {w:World} {a:Act} (hI:Inv2 w0 E N l g st tr G1 w1 L (single n ob0) (single n ob0) G w a) {o:Oper} (hi:l[nq]?=some o) (hL:∀ j,nq≤j→L j=false) (hready:∀ e∈o.after,Region.binds .any e=true→L e.on=true)
  (hdst:o.dst=none) (hgd:o.guard=none) (htop:TOp E g o (ev E env') (single n ob0) (.val undef) (single n ob1))
  {L' : Nat→Bool} (hL' : L' nq=true) (hLo:∀ j,j≠nq→L' j=L j) {Q' : Exit→Act→World→Prop} {K:Act→World→Prop} (hK:∀ G' w' a',Inv2 w0 E N l g st tr G1 w1 L' (single n ob0) (single n ob1) G' w' a'→K a' w'):∀ r,wpOpIn (Fr r) 0 E.P l.toArray Q' nq K a w:=by
 intro rd;simp only[Ft,ej] at hok;obtain ⟨⟨⟨hd,hE⟩,ag⟩,_⟩:=hok;obtain ⟨av,ah⟩:=Cq hd;have a1:=BX ag nq o hi;simp only[eN] at a1;have af:=htr.length;have an:∀ t d,t∈looks l o→lk env' t=some d→t < a.tmps.size∧V G w (a.tmps.getD t undef) d:=by
  intro t d ht B;rw[hI.size];rcases htr.env t with ⟨j,s,X,R,J,C,I,k4⟩ | ⟨J,C⟩
  ·rw[k4] at B;cases B;have b:j < nq∧l[j]?=some s:=by
    rw[eb] at J;split at J
    ·rename_i T; exact ⟨T,J⟩
    ·cases J
   have O:=CC a1 ht b.2 C (by omega);rw[if_pos b.1] at O;obtain ⟨m,i,a6⟩:=BJ O;have c:=anc hE hI.down nq o hi hready j m i a6;exact ⟨ah s (ew b.2) t C,hI.new j s t d R c b.2 C I⟩
  ·rw[C] at B;refine hI.old t d B fun j s c b H=>?_;have ad:j < nq:=gH fun h=>by rw[hL j h] at c; cases c
   exact J j s (by rw[eb,if_pos ad]; exact b) H
 have U:kapp L 0 tr (get st.σ) n=none:=by
  rw[GY 0 tr _ fun p W=>?_]
  ·exact hnσ
  ·obtain ⟨j,b⟩:=fg.1 W;cases Q:get p.2 n with
   | none=>rfl
   | some y =>
    have ac:j < (l.take nq).length:=by have:=(dW.1 b).1; omega
    obtain ⟨_,X,R,_,C,I⟩:=htr.split j _ (dO ac);rw[b] at C;cases C;rcases I with ⟨_,_,I⟩ | ⟨_,_,I⟩
    ·exact absurd (I (n,y) (AQ Q)).1 hng
    ·simp only at Q;rw[I] at Q;cases Q
 have am:kapp L' 0 tr (get st.σ)=kapp L 0 tr (get st.σ):=by
  have a7:∀ (M S : Nat→Bool),(∀ j,j < nq→M j=S j)→∀ (k:Nat) (r:List (D × Sto)) (κ:Kp),k + r.length≤nq→kapp M k r κ=kapp S k r κ:=by
   intro M S hM k r;induction r generalizing k with
   | nil=>intro κ _; rfl
   | cons p r ih =>
    intro κ hk;obtain ⟨v,nw⟩:=p;simp only[eB] at hk;simp only[kapp,hM k (by omega)];exact ih (k + 1) _ (by omega)
  refine a7 L' L (fun j b=>hLo j (by omega)) 0 tr _ ?_;rw[af,eD]; omega
 unfold wpOpIn;simp only[eA,hi];rw[if_pos (by simp[Region.wanted,hgd])];have a9:Dis (kapp L 0 tr (get st.σ)) (single n ob0):=fun m=>by
  by_cases i:n=m
  ·subst i; exact .inl U
  ·exact .inr (by simp[single,i])
 have aa:Dis (kapp L 0 tr (get st.σ)) (single n ob1):=fun m=>by
  by_cases i:n=m
  ·subst i; exact .inl U
  ·exact .inr (by simp[single,i])
 have a2:∀ m x,single n ob0 m=some x→Kp.or (kapp L 0 tr (get st.σ)) (single n ob0) m=some x:=fun m x i=>by
  rw[Vn a9];simp[Kp.or,i]
 refine htop w0 hA G w a hI.wf (fun x hx=>?_) (hI.objs.sub a2) (fun d a0=>by rw[hdst] at a0; cases a0) K Q' (fun G' w' x ap _ ho hs=>?_) rd
 ·cases x with
  | tmp t =>
   simp only[Act.eval,Ab.ev];cases B:lk env' t with
   | none=>exact .any _
   | some d=>exact (an t d (by unfold looks; exact eI _ (fJ.2 ⟨.tmp t,by simpa using hx,rfl⟩)) B).2
  | const v=>exact V.ofV G w v
  | global g=>exact E.hglob w0 hA G w hI.wf g
  | func f=>exact .func rfl rfl (by simp) (by simp)
 ·obtain ⟨Y,F⟩:=frame (κs:=single n ob0) (τ:=kapp L 0 tr (get st.σ)) hI.wf hI.objs a2 (fun m x i=>⟨by simp[Kp.or,i],by
    by_cases z:n=m
    ·subst z; rw[U] at i; cases i
    ·simp[single,z]⟩) hs ho
  have ab:Kp.or (single n ob1) (kapp L 0 tr (get st.σ))=Kp.or (kapp L' 0 tr (get st.σ)) (single n ob1):=by rw[am,Vn aa]
  rw[ab] at Y F;have ak:a.put o.dst x=a:=by rw[hdst]; rfl
  rw[ak];refine hK G' w' a ⟨hI.size,hI.defers.step F hI.wf hI.objs,ap,fun t d B ai=>?_,fun j s t X R c b H W=>?_,Y,⟨eV hI.fresh.1 F.top,fun j s d c b H q=>?_⟩,hI.step.trans (F.weaken fun m _ i=>i.1),fun j s b c e z O=>?_⟩
  ·obtain ⟨T,h2⟩:=hI.old t d B fun j s c b=>by
    by_cases u:j=nq
    ·subst u; rw[hL j (ec _)] at c; cases c
    ·exact ai j s (by rw[hLo j u]; exact c) b
   exact ⟨T,h2.step F hI.wf hI.objs⟩
  ·by_cases u:j=nq
   ·subst u;rw[hi] at b;cases b;rw[hdst] at H;cases H
   ·rw[hLo j u] at c;exact (hI.new j s t X R c b H W).step F hI.wf hI.objs
  ·have u:j≠nq:=fun e=>by subst e; rw[hL'] at c; cases c
   rw[hLo j u] at c;exact F.fresh hI.fresh.1 (hI.fresh.2 j s d c b H q) fun ⟨_,z⟩=>by rw[hdst] at z; cases z
  ·have keep:L e.on=true→L' e.on=true:=fun h=>by
    by_cases Z : e.on=nq
    ·rw[Z]; exact hL'
    ·rw[hLo _ Z]; exact h
   by_cases u:j=nq
   ·subst u;rw[hi] at b;cases b;exact keep (hready e z O)
   ·simp only at c;rw[hLo j u] at c;exact keep (hI.down j s b c e z O)
theorem IM {rd:Option Nat} {P:Program} {Q' : Exit→Act→World→Prop} {nq:Nat} (hE:FD 0 l=true) (htail:Fp (fun i _=>decide (i < nq) || (List.range i).all fun j=>bit (masks l []) i j) 0 l=true) :
  ∀ (fuel k:Nat) (A:Array Bool) (a:Act) (w:World),A.size=l.length→nq≤k + 1→k + fuel=l.length→(∀ j,j < l.length→A.getD j true=decide (j < k))→wpListIn (Fr rd) 0 P l.toArray Q' (l.drop k) a w →
   wpAnyIn (Fr rd) 0 P .any l.toArray Q' fuel A a w:=by
 intro fuel;induction fuel with
 | zero =>
  intro k A a w _ _ I b h;rw[fp (by omega)] at h;refine ⟨?_,h⟩;cases L:Region.ready .any l.toArray A with
  | nil=>rfl
  | cons i r =>
   have p:i∈Region.ready .any l.toArray A:=by rw[L]; exact dY
   obtain ⟨c,o,d,_⟩:=mem_ready.1 p;simp only[eA] at d;have:=(dW.1 d).1;rw[b i this] at c;simp at c;omega
 | succ fuel ih =>
  intro k A a w M N I b h;have s:k < l.length:=by omega
  have z:l[k]?=some l[k]:=dO s;have y:k∈Region.ready .any l.toArray A:=by
   refine mem_ready.2 ⟨by rw[b k s]; simp,l[k],by simp,fun e n g=>?_⟩;have:=BU 0 l hE k _ z e n g;have u:=b e.on (by omega);rw[er] at u ⊢;simp only[show e.on < A.size by omega,getElem?_pos,eX] at u ⊢;rw[u];simp;omega
  have F:Down l fun j=>j < l.length∧A.getD j true=true:=by
   intro i o p D e n g;have v:=(dW.1 p).1;have:=BU 0 l hE i o p e n g;have c:=D.2;rw[b i v] at c;simp only[decide_eq_true_eq] at c;exact ⟨by omega,by rw[b e.on (by omega)]; simp; omega⟩
  refine ⟨fun h0=>(by rw[h0] at y; cases y),fun i p=>?_⟩;obtain ⟨c,o,d,C⟩:=mem_ready.1 p;simp only[eA] at d;have v:=(dW.1 d).1;rw[b i v] at c;simp only[decide_eq_false_iff_not] at c;have G:i=k:=by
   refine gs (fX fun J=>?_) (by omega);have B:=BX htail i o d;simp only[eN,fW,decide_eq_true_eq,eL] at B;have g:=(B.resolve_left (by omega)) k (fE.2 J);obtain ⟨m,K,E⟩:=BJ g;have:=anc hE F i o d (fun e n g=>by
    have t:=C e n g;have:=BU 0 l hE i o d e n g;refine ⟨by omega,?_⟩;rw[er] at t ⊢;simp only[show e.on < A.size by omega,getElem?_pos,eX] at t ⊢;exact t) k m K E
   have:=this.2;rw[b k s] at this;simp at this
  subst G;rw[ek s] at h;simp only[wpListIn] at h;unfold wpOpIn;simp only[eA,z];have next:∀ a w,wpListIn (Fr rd) 0 P l.toArray Q' (l.drop (i + 1)) a w→wpAnyIn (Fr rd) 0 P .any l.toArray Q' fuel (A.setIfInBounds i true) a w:=fun a w q=>by
   refine ih (i + 1) (A.setIfInBounds i true) a w (by simpa using M) (by omega) (by omega) (fun j H=>?_) q;by_cases x:i=j
   ·subst x;simp[show i < A.size by omega]
   ·rw[getD_set_ne true x,b j H]
    congr 1
    simp only[eq_iff_iff];omega
  split
  ·rename_i q;rw[if_pos q] at h;exact Oper.wpIn_mono next h
  ·rename_i q;rw[if_neg q] at h;exact ⟨fun f _=>Fi rd f,next _ _ h.2⟩
theorem UJ {rd:Option Nat} {w0:World} (hA:E.A w0) {nq:Nat} (hnq:nq < l.length) (hok:Ft N l nq=true) {tr:List (D × Sto)} {env' : List (Nat × D)} (htr:QTrace E l g st.σ (l.take nq) st.env tr env') (hσg:∀ i j,get st.σ ⟨g,i,j⟩=none) {τ0 τ:Kp}
  {G1:Gh} {w1:World} {Q' : Exit→Act→World→Prop} (hend:∀ L G w a,(∀ j,j < nq→L j=true)→(∀ j,nq + 1≤j→L j=false)→Inv2 w0 E N l g st tr G1 w1 L τ0 τ G w a→wpListIn (Fr rd) 0 E.P l.toArray Q' (l.drop (nq + 1)) a w) :
  ∀ (fuel:Nat) (A:Array Bool) (G:Gh) (w:World) (a:Act),A.size=l.length→left A l.length=fuel→A.getD nq true=true→(∀ j,nq + 1≤j→j < l.length→A.getD j true=false)→Inv2 w0 E N l g st tr G1 w1 (fun j=>A.getD j false) τ0 τ G w a →
   wpAnyIn (Fr rd) 0 E.P .any l.toArray Q' fuel A a w:=by
 have C:=hok;simp only[Ft,ej] at C;obtain ⟨⟨⟨_,t⟩,_⟩,x⟩:=C;have same:∀ (A:Array Bool) (j:Nat),A.size=l.length→j < l.length→A.getD j true=A.getD j false:=fun A j c f=>by
  simp[show j < A.size by omega]
 intro fuel;induction fuel with
 | zero =>
  intro A G w a d z r k p;have n:=CZ z;have X:nq + 1=l.length:=by
   refine gs hnq (fX fun B=>?_);have c:=n (nq + 1) B;rw[k (nq + 1) (ec _) B] at c;cases c
  refine IM t x 0 l.length A a w d (by omega) (by omega) (fun j b=>by rw[n j b]; simp[b]) ?_;rw[← X];refine hend _ G w a (fun j b=>by rw[← same A j d (by omega)]; exact n j (by omega)) (fun j b=>?_) p;simp[eS (show A.size≤j by omega)]
 | succ fuel ih =>
  intro A G w a d z r k p;by_cases u:left A nq=0
  ·have n:=CZ u;have a3:left A l.length=l.length - (nq + 1):=by
    have:∀ m,nq + 1≤m→m≤l.length→left A m=m - (nq + 1):=by
     intro m;induction m with
     | zero=>intro c _; omega
     | succ m a1 =>
      intro c f;by_cases s:nq=m
      ·rw[Do,← s,u,r]; simp
      ·rw[Do,a1 (by omega) (by omega),k m (by omega) (by omega)];simp;omega
    exact this _ hnq (ec _)
   have O:∀ j,j < nq + 1→A.getD j true=true:=fun j b=>by
    by_cases h:j < nq
    ·exact n j h
    ·have:j=nq:=by omega
     subst this; exact r
   refine IM t x (fuel + 1) (nq + 1) A a w d (by omega) (by omega) (fun j b=>?_) ?_
   ·by_cases h:j < nq + 1
    ·rw[O j h]; simp[h]
    ·rw[k j (by omega) b]; simp[h]
   ·refine hend _ G w a (fun j b=>by rw[← same A j d (by omega)]; exact n j b) (fun j b=>?_) p;by_cases h:j < l.length
    ·rw[← same A j d h]; exact k j b h
    ·simp[eS (show A.size≤j by omega)]
  ·obtain ⟨q,a4,F,a0⟩:=F7 u;have Z:l[q]?=some l[q]:=dO (by omega);have H:q∈Region.ready .any l.toArray A:=by
    refine mem_ready.2 ⟨F,l[q],by simp,fun e R v=>?_⟩;have:=BU 0 l t q _ Z e R v;rw[← same A e.on d (by omega)];exact a0 e.on (by omega)
   refine ⟨fun h0=>(by rw[h0] at H; cases H),fun i S=>?_⟩;obtain ⟨c,o,f,s⟩:=mem_ready.1 S;simp only[eA] at f;have y:=(dW.1 f).1;have T:i < nq:=by
    refine gH fun _=>?_;by_cases Y:i=nq
    ·subst Y; rw[r] at c; cases c
    have I:=BX x i o f;simp only[eN,fW,decide_eq_true_eq,eL] at I;have v:=(I.resolve_left (by omega)) q (fE.2 (by omega));obtain ⟨m,W,Q⟩:=BJ v;have:=anc t p.down i o f s q m W Q;rw[← same A q d (by omega),F] at this;cases this
   refine Rg hA hok htr hσg p f T (by rw[← same A i d y]; exact c) s (L':=fun j=>(A.setIfInBounds i true).getD j false) (by simp[show i < A.size by omega]) (fun j b=>getD_set_ne false (Ne.symm b)) (fun J w' K M=>?_) rd;refine ih (A.setIfInBounds i true) J w' K (by simpa using d) ?_ (by rw[getD_set_ne true (by omega)]; exact r) (fun j U V=>by rw[getD_set_ne true (by omega)]; exact k j U V) M;have:=Fq A c l.length;rw[if_pos y] at this;omega
theorem Tf {rd:Option Nat} {w0:World} (hA:E.A w0) {nq:Nat} {o:Oper} (ho:l[nq]?=some o) (hok:Ft N l nq=true) {tr:List (D × Sto)} {env' : List (Nat × D)} (htr:QTrace E l g st.σ (l.take nq) st.env tr env') (hσg:∀ i j,get st.σ ⟨g,i,j⟩=none)
  {n:Nm} {ob0 ob1:Ob} (hng:n.g≠g) (hnσ:get st.σ n=none) (hdst:o.dst=none) (hgd:o.guard=none) (htop:TOp E g o (ev E env') (single n ob0) (.val undef) (single n ob1))
  {G1:Gh} {w1:World} {Q' : Exit→Act→World→Prop} (hend1:∀ L G w a,(∀ j,j < nq→L j=true)→(∀ j,nq≤j→L j=false)→Inv2 w0 E N l g st tr G1 w1 L (single n ob0) (single n ob0) G w a→wpListIn (Fr rd) 0 E.P l.toArray Q' (l.drop nq) a w)
  (hend2:∀ L G w a,(∀ j,j < nq→L j=true)→(∀ j,nq + 1≤j→L j=false)→Inv2 w0 E N l g st tr G1 w1 L (single n ob0) (single n ob1) G w a→wpListIn (Fr rd) 0 E.P l.toArray Q' (l.drop (nq + 1)) a w) :
  ∀ (fuel:Nat) (A:Array Bool) (G:Gh) (w:World) (a:Act),A.size=l.length→left A l.length=fuel→(∀ j,nq≤j→j < l.length→A.getD j true=false)→Inv2 w0 E N l g st tr G1 w1 (fun j=>A.getD j false) (single n ob0) (single n ob0) G w a →
   wpAnyIn (Fr rd) 0 E.P .any l.toArray Q' fuel A a w:=by
 have J:nq < l.length:=(dW.1 ho).1;have K:=hok;simp only[Ft,ej] at K;obtain ⟨⟨⟨_,v⟩,_⟩,R⟩:=K;have same:∀ (A:Array Bool) (j:Nat),A.size=l.length→j < l.length→A.getD j true=A.getD j false:=fun A j d f=>by
  simp[show j < A.size by omega]
 intro fuel;induction fuel with
 | zero =>
  intro A G w a c I k r;have d:=CZ I nq J;rw[k nq (ec _) J] at d;cases d
 | succ fuel ih =>
  intro A G w a c I k r;by_cases s:left A nq=0
  ·have F:=CZ s;have a3:left A l.length=l.length - nq:=by
    have:∀ m,nq≤m→m≤l.length→left A m=m - nq:=by
     intro m;induction m with
     | zero=>intro d _; rw[im.1 d] at s; simp[left]
     | succ m a2 =>
      intro d f;by_cases p:nq=m + 1
      ·rw[← p,s]; omega
      ·rw[Do,a2 (by omega) (by omega),k m (by omega) (by omega)];simp;omega
    exact this _ (by omega) (ec _)
   refine IM v R (fuel + 1) nq A a w c (ec _) (by omega) (fun j b=>?_) ?_
   ·by_cases h:j < nq
    ·rw[F j h]; simp[h]
    ·rw[k j (by omega) b]; simp[h]
   ·refine hend1 _ G w a (fun j b=>by rw[← same A j c (by omega)]; exact F j b) (fun j b=>?_) r;by_cases h:j < l.length
    ·rw[← same A j c h]; exact k j b h
    ·simp[eS (show A.size≤j by omega)]
  ·obtain ⟨q,a4,M,a0⟩:=F7 s;have Z:l[q]?=some l[q]:=dO (by omega);have O:q∈Region.ready .any l.toArray A:=by
    refine mem_ready.2 ⟨M,l[q],by simp,fun e U y=>?_⟩;have:=BU 0 l v q _ Z e U y;rw[← same A e.on c (by omega)];exact a0 e.on (by omega)
   refine ⟨fun h0=>(by rw[h0] at O; cases O),fun i V=>?_⟩;obtain ⟨d,S,f,p⟩:=mem_ready.1 V;simp only[eA] at f;have z:=(dW.1 f).1;have a1:=Fq A d l.length;rw[if_pos z] at a1;by_cases X:i < nq
   ·refine Rg hA hok htr hσg r f X (by rw[← same A i c z]; exact d) p (L':=fun j=>(A.setIfInBounds i true).getD j false) (by simp[show i < A.size by omega]) (fun j b=>getD_set_ne false (Ne.symm b)) (fun t C u x=>?_) rd;exact ih (A.setIfInBounds i true) t C u (by simpa using c) (by omega) (fun j H B=>by rw[getD_set_ne true (by omega)]; exact k j H B) x
   ·have W:i=nq:=by
     refine gs (fX fun _=>?_) (by omega);have Q:=BX R i S f;simp only[eN,fW,decide_eq_true_eq,eL] at Q;have y:=(Q.resolve_left (by omega)) q (fE.2 (by omega));obtain ⟨m,Y,T⟩:=BJ y;have:=anc v r.down i S f p q m Y T;rw[← same A q c (by omega),M] at this;cases this
    subst W;rw[ho] at f;cases f;refine XG hA hok htr hng hnσ r ho (fun j b=>?_) p hdst hgd htop (L':=fun j=>(A.setIfInBounds i true).getD j false) (by simp[show i < A.size by omega]) (fun j b=>getD_set_ne false (Ne.symm b)) (fun t C u x=>?_) rd
    ·by_cases h:j < l.length
     ·rw[← same A j c h]; exact k j b h
     ·simp[eS (show A.size≤j by omega)]
    ·exact UJ hA z hok htr hσg hend2 fuel (A.setIfInBounds i true) t C u (by simpa using c) (by omega) (by simp[show i < A.size by omega]) (fun j H B=>by rw[getD_set_ne true (by omega)]; exact k j (by omega) B) x
theorem TOp.frame {o:Oper} {e:Operand→D} {κs κs' τ κ:Kp} {v:D} (h:TOp E g o e κs v κs') (hsub:∀ n x,κs n=some x→κ n=some x) (hτ:∀ n x,τ n=some x→κ n=some x∧κs n=none):TOp E g o e κ v (Kp.or κs' τ):=by
 intro y k G w a c m b p K f l;refine h y k G w a c m (b.sub hsub) p K f fun d u x t s q r=>?_;obtain ⟨i,j⟩:=Go.Ab.frame c b hsub hτ r q;exact l d u x t s i j
theorem Zi {Q:Exit→St→Prop} {id:Nat} (nq:Nat) (n:Nm) {o:Oper} (ho:l[nq]?=some o) (hdst:o.dst=none) (hgd:o.guard=none) (hok:Ft N l nq=true) {ob0:Ob} (hn:get st.σ n=some ob0)
  (h:∀ g,(∀ i j,get st.σ ⟨g,i,j⟩=none)→QRun E l g (del st.σ n) (fun s=>∃ ob1,TOp E g o (ev E s.env) (single n ob0) (.val undef) (single n ob1)∧AOps E N l g (fun s=>Q .normal s) (l.drop (nq + 1)) { env:=s.env,σ:=(n,ob1) :: s.σ }) (l.take nq) { env:=st.env,σ:=del st.σ n }) :
  AWp E N (.region id l.toArray true) Q st:=by
 intro W hA G w a hN hr rd aW;obtain ⟨H,ht,hf,hσ,D,K⟩:=bump hr;have am:nq < l.length:=(dW.1 ho).1;have ao:=hok;simp only[Ft,ej] at ao;obtain ⟨aE,aj⟩:=Cq ao.1.1.1;obtain ⟨c,env',Z,ob1,aq,hK⟩:=h G.top hσ;have al:n.g≠G.top:=fun e=>by
  obtain ⟨ng,ni,nj⟩:=n;simp only at e;subst e;rw[hσ] at hn;cases hn
 have an:get (del st.σ n) n=none:=by rw[GX]; simp
 have aN:∀ i j,get (del st.σ n) ⟨G.top,i,j⟩=none:=fun i j=>by
  rw[GX];split
  ·rfl
  ·exact hσ i j
 have ap:∀ κ:Kp,κ=get (del st.σ n)→Kp.or κ (single n ob0)=get st.σ:=fun κ hκ=>by
  subst hκ
  funext m
  simp only[Kp.or,GX,single];by_cases r:n=m
  ·subst r; simp[hn]
  ·simp[r]
 refine wpIn_region_any E.mixed ?_;have hV:∀ v d,V H w v d→V H { w with drawn:=w.drawn + 1 } v d:=fun v d h=>h.mono (fun _ h=>h) (fun _ _=>rfl) (fun _ _ h=>h);have ax:Inv2 W E N l G.top { env:=st.env,σ:=del st.σ n } c H { w with drawn:=w.drawn + 1 } (fun j=>(Array.replicate l.length false).getD j false) (single n ob0) (single n ob0) H { w with drawn:=w.drawn + 1 } a:=by
  have a2:∀ j,(Array.replicate l.length false).getD j false=false:=fun j=>by
   by_cases b:j < l.length
   ·simp[b]
   ·simp[eS (show (Array.replicate l.length false).size≤j by simp; omega)]
  have ah:kapp (fun j=>(Array.replicate l.length false).getD j false) 0 c (get (del st.σ n))=get (del st.σ n):=Je 0 c _ a2;refine ⟨hN,D.defers,⟨D.wf.below.draw,D.wf.old,D.wf.lt,D.wf.nm⟩,fun t d C _=>⟨by rw[← hN]; exact (D.env t d C).1,hV _ _ (D.env t d C).2⟩,fun j o t v nw U=>?_,?_,⟨by omega,fun j o d _ _ _ q=>hf d q⟩,?_,fun i o _ U=>?_⟩
  ·rw[a2] at U; cases U
  ·simp only;rw[ah,ap _ rfl];exact ⟨fun n o hn=>let ⟨v,M,O,h3⟩:=D.objs.ob n o hn; ⟨v,M,O.mono hV fun _ _=>rfl,h3⟩,D.objs.ne⟩
  ·simp only;rw[ah]; exact .refl _ _ _ _
  ·have a8 : (Array.replicate l.length false).getD i false=true:=U;rw[a2] at a8; cases a8
 have aD:=Z.length;have ai:∀ L:Nat→Bool,(∀ j,j < nq→L j=true)→kapp L 0 c (get (del st.σ n))=get (accN c (del st.σ n)):=fun L U=>KH 0 c _ fun j _ b=>U j (by rw[aD,eD] at b; omega);have ak:get (accN c (del st.σ n)) n=none:=by
  rw[← ai (fun _=>true) fun _ _=>rfl];rw[GY 0 c _ fun p hp=>?_]
  ·exact an
  ·obtain ⟨j,b⟩:=fg.1 hp;cases X:get p.2 n with
   | none=>rfl
   | some y =>
    have aA:j < (l.take nq).length:=by have:=(dW.1 b).1; omega
    obtain ⟨_,v',b1,_,R,S⟩:=Z.split j _ (dO aA);rw[b] at R;cases R;rcases S with ⟨_,_,S⟩ | ⟨_,_,S⟩
    ·exact absurd (S (n,y) (AQ X)).1 al
    ·simp only at X;rw[S] at X;cases X
 have aG:∀ B,Kp.or (get (accN c (del st.σ n))) (single n B)=get ((n,B) :: accN c (del st.σ n)):=fun B=>by
  funext m
  simp only[Kp.or,single,get];by_cases r:n=m
  ·subst r; simp[ak]
  ·simp[r]
 have aP:∀ (L:Nat→Bool) (B:Ob) (z : Gh) (u : World) (A : Act) (a0:Nat),(∀ j,j < nq→L j=true)→(∀ j,a0≤j→L j=false)→(∀ j T,nq≤j→j < a0→l[j]?=some T→T.dst=none)→Inv2 W E N l G.top { env:=st.env,σ:=del st.σ n } c H { w with drawn:=w.drawn + 1 } L (single n ob0) (single n B) z u A →
   Rel W z u A ⟨env',(n,B) :: accN c (del st.σ n)⟩∧Step (fun n=>n.g=G.top) G w (get st.σ) z u (get ((n,B) :: accN c (del st.σ n))):=by
  intro L B z u A a0 I J a1 f;have a3:=f.objs;have Y:=f.step;simp only at a3 Y;rw[ai L I,aG] at a3 Y;rw[ap _ rfl] at Y;refine ⟨⟨f.wf,fun t d C=>?_,a3,f.defers⟩,?_⟩
  ·rw[f.size];have aw:∀ (j:Nat) o,(l.take nq)[j]?=some o→j < nq∧l[j]?=some o:=fun j o h=>by
    rw[eb] at h;split at h
    ·rename_i b; exact ⟨b,h⟩
    ·cases h
   rcases Z.env t with ⟨j,o,v,nw,k1,R,S,k4⟩ | ⟨k1,R⟩
   ·simp only at C;rw[k4] at C;cases C;obtain ⟨b,ag⟩:=aw j o k1;exact ⟨aj o (ew ag) t R,f.new j o t d nw (I j b) ag R S⟩
   ·simp only at C;rw[R] at C;refine f.old t d C fun j o a9 b=>?_;by_cases aB:j < nq
    ·exact k1 j o (by rw[eb,if_pos aB]; exact b)
    ·by_cases aC:j < a0
     ·rw[a1 j o (by omega) aC b]; simp
     ·rw[J j (by omega)] at a9; cases a9
  ·have aK:Step (fun n=>n.g=G.top) G w (get st.σ) H { w with drawn:=w.drawn + 1 } (get st.σ) :=
    ⟨ec _,fun _ _ _=>rfl,K.F,K.F',K.ρ,fun n M O _=>K.ρ' n M O fun h=>h,K.top,K.blk',K.dom,K.base⟩
   exact aK.trans Y
 have ae:∀ (k:Nat) (L:Nat→Bool) (B:Ob) (z : Gh) (u : World) (A : Act),nq≤k→(∀ j,j < nq→L j=true)→(∀ j,k≤j→L j=false)→(∀ j T,nq≤j→j < k→l[j]?=some T→T.dst=none)→Inv2 W E N l G.top { env:=st.env,σ:=del st.σ n } c H { w with drawn:=w.drawn + 1 } L (single n ob0) (single n B) z u A →
   AOps E N l G.top (fun s=>Q .normal s) (l.drop k) { env:=env',σ:=(n,B) :: accN c (del st.σ n) }→wpListIn (Fr rd) 0 E.P l.toArray (post W N no G w st.σ Q) (l.drop k) A u:=by
  intro k L B z u A hk I J a1 f ay;obtain ⟨aJ,aL⟩:=aP L B z u A k I J a1 f;refine ay W hA z u A f.size aJ f.fresh.1 ?_ (fun o ho d hd=>?_) _ (fun G2 aU _ _ q1 q2 q3 q4=>⟨G2,aU,q1,q2,?_,q4⟩) rd
  ·exact aE.sublist ((gO k l).filterMap _)
  ·obtain ⟨j,b⟩:=fg.1 ho;rw[eR] at b;exact ⟨aj o (ew b) d hd,f.fresh.2 (k + j) o d (J _ (by omega)) b hd⟩
  ·exact (aL.trans q3).weaken fun n hn he=>by omega
 refine Tf (st:={ env:=st.env,σ:=del st.σ n }) hA ho hok Z aN al an hdst hgd aq (fun L z u A I J f=>?_) (fun L z u A I J f=>?_) l.toArray.size (Array.replicate l.toArray.size false) H _ a (by simp) (by simp only[gb]; exact HA _ _ (ec _)) (fun j M O=>by simp[O]) (by simpa using ax)
 ·refine ae nq L ob0 z u A (ec _) I J (fun j T M O=>absurd M (by omega)) f ?_;rw[ek am];have aF:l[nq]=o:=by rw[dO am] at ho; exact Option.some.inj ho
  rw[aF];refine IB (v:=.val undef) (σ:=(n,ob1) :: accN c (del st.σ n)) (by simp[Dt,hgd]) ?_ (by rw[hdst]; exact hK);have af:=aq.frame (κ:=get ((n,ob0) :: accN c (del st.σ n))) (τ:=get (accN c (del st.σ n))) (fun m x r=>?_) (fun m x r=>?_)
  ·have he:Kp.or (single n ob1) (get (accN c (del st.σ n)))=get ((n,ob1) :: accN c (del st.σ n)):=by
    funext m
    simp only[Kp.or,single,get];by_cases h:n=m <;> simp[h]
   rw[he] at af;exact af
  ·simp only[single] at r;split at r
   ·rename_i h; subst h; cases r; simp[get]
   ·cases r
  ·by_cases h:n=m
   ·subst h; rw[ak] at r; cases r
   ·exact ⟨by simp[get,h,r],by simp[single,h]⟩
 ·refine ae (nq + 1) L ob1 z u A (by omega) I J (fun j T M O b=>?_) f hK;have:j=nq:=by omega
  subst this;rw[ho] at b;cases b;exact hdst
end
section
variable {E:Ctx} {N:Nat} {st:St}
theorem Pu {P:Program} {t:TypeId} {ad v:D} {n:Nm} {ob:Ob} {σ:Sto} (h:Hz P t ad v [(n,ob)]=some σ):∃ ob1,σ=[(n,ob1)]:=by
 have d:∀ (m:Nm) (o c : Ob),get [(n,ob)] m=some o→∃ ob1,set [(n,ob)] m c=[(n,ob1)]:=fun m o c b=>by
  simp only[get] at b;split at b
  ·rename_i e;subst e;exact ⟨c,by simp[set]⟩
  ·cases b
 unfold Hz at h;split at h
 ·split at h
  ·rename_i a;split at h
   ·cases h; exact d _ _ _ a
   ·cases h
  ·cases h
 ·split at h
  ·rename_i a;split at h
   ·split at h
    ·split at h
     ·cases h; exact d _ _ _ a
     ·cases h
    ·cases h
   ·cases h
  ·cases h
 ·cases h
theorem D1 {Q:Exit→St→Prop} {id:Nat} {l:List Oper} {ds:List (Option Tmp)} (nq:Nat) (n:Nm) {o:Oper} {t:TypeId} {ao x:Operand} (ho:l[nq]?=some o) (hop:o.op=.store t ao x) (hdst:o.dst=none) (hgd:o.guard=none)
  (hok:Ft N l nq=true) (hds:l.map (·.dst)=ds)
  (h:SomeP (get st.σ n) fun ob0=>∀ g,(∀ i j,get st.σ ⟨g,i,j⟩=none)→∀ (ops:List Oper) (K:St→Prop),ops.map (·.dst)=ds→(∀ s,Q .normal s→K s) →
   QRun E ops g (del st.σ n) (fun s=>SomeP (Hz E.P t (ev E s.env ao) (ev E s.env x) [(n,ob0)]) fun σ1=>AOps E N ops g K (l.drop (nq + 1)) { env:=s.env,σ:=σ1++s.σ }) (l.take nq) { env:=st.env,σ:=del st.σ n }) :
  AWp E N (.region id l.toArray true) Q st:=by
 obtain ⟨ob0,k,h⟩:=h.elim;refine Zi nq n ho hdst hgd hok k fun g f=>?_;obtain ⟨p,env',b,c⟩:=h g f l (fun s=>Q .normal s) hds (fun _ h=>h);obtain ⟨σ1,a,d⟩:=c.elim;obtain ⟨m,rfl⟩:=Pu a;refine ⟨p,env',b,m,?_,d⟩;have:=Gu (E:=E) (g:=g) (e:=ev E env') (σ:=[(n,ob0)]) hop a;rwa [CI,CI] at this
end
end Go.Ab
namespace Go.Proofs.T
open Go Go.Ab Go.RowKit
def tyDe (p:Prg) (n:Str):Option Dec:=(CF p n).bind fun i=>p.decls[i]?
def AU (p:Prg) (n:Str):Int:=((tyDe p n).getD BM).kind
def Bf (p:Prg) (n:Str):List Formal:=((tyDe p n).getD BM).formals
def BN (p:Prg) (x:Ty) (k:Int):Bool:=decide (AU p x.name=k) && decide ((Bf p x.name).length=x.args.length)
theorem ED {p:Prg} {n:Str} (h:CF p n=none):tyDe p n=none:=by simp[tyDe,h]
theorem EE {p:Prg} {n:Str} {i:Nat} (h:CF p n=some i):∃ hi:i < p.decls.length,tyDe p n=some p.decls[i]:=by
 obtain ⟨hi,_⟩:=eU.1 h;exact ⟨hi,by simp[tyDe,h,hi]⟩
theorem Zj {p:Prg} {n:Str} {d:Dec} (h:tyDe p n=some d):d∈p.decls:=by
 unfold tyDe at h;obtain ⟨i,_,a⟩:=fj.1 h;exact ew a
theorem XH:smDe BM:=by
 have a:smTy BV:=(Bi _).2 ⟨by simp[BV],by simp[BV],by simp[BV]⟩;have c:smSi Bw:=⟨by simp[Bw],⟨by simp[Bw],by simp[Bw]⟩,⟨by simp[Bw],by simp[Bw]⟩,a⟩
 have b:smEx Cb:=(Bd _).2 ⟨by simp[Cb],a,⟨by simp[Cb],by simp[Cb]⟩,by simp[Cb],by simp[Cb]⟩;exact ⟨by simp[BM],⟨by simp[BM],by simp[BM]⟩,⟨by simp[BM],by simp[BM]⟩,⟨by simp[BM],by simp[BM]⟩,by simp[BM],⟨by simp[BM],by simp[BM]⟩,c,b⟩
theorem E2 {p:Prg} (h:smPr p) (n:Str):smDe ((tyDe p n).getD BM):=by
 cases a:tyDe p n with
 | none=>exact XH
 | some d=>exact h.1.2 d (Zj a)
theorem Eg (p:Prg) (n:Str) (hl:p.decls.length≤2000) (g d:Nat):ACalls E 88 [AZ p,encS n] [] g d (dI (AU p n)) []:=by
 refine Ax 17 Tryz.call88 Tryz.func88 ?_;simp only[go_sem];refine Aa fun _ j=>Ac 2 fun _ _=>?_;simp only[go_sem];refine j (Aa fun _ e=>Am fun _ _ _ _ a f=>Af 2 a ?_);simp only[go_sem];cases b:CF p n with
 | none =>
  have c:=ED b;have h0:((-1:Int) < 0)=True:=by simp
  refine Ak a (Dy p n hl _ _) ?_;refine Ad 1 a ?_;simp only[go_sem,b,optI];refine f (e (Aa fun _ _=>Aa fun _ k=>Ac 2 fun h r=>?_));simp only[go_sem,h0];refine k (Al (Aa fun _ l=>Ac 1 fun _ _=>?_));simp only[go_sem];refine l (Ah (Ag ?_));simp only[go_sem];exact Co.of_eq (by simp[AU,c,BM])
 | some i =>
  obtain ⟨s,c⟩:=EE b;have h0:¬ (i:Int) < 0:=by omega
  refine Ak a (Dy p n hl _ _) ?_;refine Ad 1 a ?_;simp only[go_sem,b,optI];refine f (e (Aa fun _ m=>Aa fun _ o=>Ac 2 fun h r=>?_));simp only[go_sem,h0];refine o (Aj (Ae (m (Aa fun _ q=>Ac 7 fun _ _=>?_))));simp only[go_sem,getM s];refine q (Ah (Ag ?_));simp only[go_sem];exact Co.of_eq (by simp[AU,c])
theorem Fu (p:Prg) (n:Str) (hl:p.decls.length≤2000) (g d:Nat):ACalls E 89 [AZ p,encS n] [] g d (slFm (Bf p n)) []:=by
 refine Ax 17 Tryz.call89 Tryz.func89 ?_;simp only[go_sem];refine Aa fun _ k=>Ac 2 fun _ _=>?_;simp only[go_sem];refine k (Aa fun _ f=>Am fun _ _ _ _ a h=>Af 2 a ?_);simp only[go_sem];cases b:CF p n with
 | none =>
  have c:=ED b;have h0:((-1:Int) < 0)=True:=by simp
  refine Ak a (Dy p n hl _ _) ?_;refine Ad 1 a ?_;simp only[go_sem,b,optI];refine h (f (Aa fun _ _=>Aa fun _ l=>Ac 2 fun j s=>?_));simp only[go_sem,h0];refine l (Al (Aa fun _ m=>Ac 1 fun _ _=>?_));simp only[go_sem];refine m (Ah ?_);have e:Bf p n=[]:=by simp[Bf,c,BM]
  rw[e];refine Ag ?_;simp only[go_sem];exact .nil _
 | some i =>
  obtain ⟨t,c⟩:=EE b;have h0:¬ (i:Int) < 0:=by omega
  refine Ak a (Dy p n hl _ _) ?_;refine Ad 1 a ?_;simp only[go_sem,b,optI];refine h (f (Aa fun _ o=>Aa fun _ q=>Ac 2 fun j s=>?_));simp only[go_sem,h0];refine q (Aj (Ae (o (Aa fun _ r=>Ac 7 fun _ _=>?_))));simp only[go_sem,getM t];refine r (Ah (Ag ?_));simp only[go_sem];exact Co.of_eq (by simp[Bf,c])
theorem CU (p:Prg) (x:Ty) (k:Int) (hl:p.decls.length≤2000) (g d:Nat):ACalls E 45 [AZ p,AC x,dI k] [] g d (dB (BN p x k)) []:=by
 refine Ax 24 Tryz.call45 Tryz.func45 ?_;simp only[go_sem];refine Aa fun _ f=>Ac 3 fun _ _=>?_;simp only[go_sem];refine f (Aa fun _ b=>AF 17 fun _ _ _ _ a c=>Av 3 a ?_);simp only[go_sem];by_cases h:AU p x.name=k
 ·refine Aw a (Eg p x.name hl _ _) ?_;refine Av 6 a ?_;simp only[go_sem,h];refine Aw a (Fu p x.name hl _ _) ?_;refine Ap 6 a ?_;simp only[go_sem];refine Ad 1 a ?_;simp only[go_sem];refine c (b (Ah ?_));have e:BN p x k=decide (((Bf p x.name).length:Int)=x.args.length):=by
   rw[ge]; simp[BN,h]; omega
  rw[e];refine Ag ?_;simp only[go_sem];exact Co.refl _
 ·refine Aw a (Eg p x.name hl _ _) ?_;refine Ap 13 a ?_;simp only[go_sem,h];refine Ad 1 a ?_;simp only[go_sem];refine c (b (Ah ?_));have e:BN p x k=false:=by simp[BN,h]
  rw[e];refine Ag ?_;simp only[go_sem];exact Co.refl _
def JU (d:Dec) (us:List Ty):List Param:=d.fields.map (DS (AD (d.formals.map (·.name)) us))
theorem GA (p:Prg) (h:smPr p) (x:Ty) (hx:smTy x) (j:Nat) (hj:CF p x.name=some j) (g d:Nat) :
    ACalls E 46 [AZ p,AC x] [] g d (slPa (JU ((tyDe p x.name).getD BM) x.args)) []:=by
  have u:=E2 h x.name;obtain ⟨a3,hd⟩:=EE hj;rw[hd] at u ⊢;simp only[eX] at u ⊢;have a4:=((Bi x).1 hx)
  have H:=getM (f:=Ce) a3;generalize p.decls[j]=e at u H;obtain ⟨-,⟨f1,f2⟩,⟨f3,K⟩,-⟩:=u;refine Ax 43 Tryz.call46 Tryz.func46 ?_;simp only[go_sem];refine Aa fun _ M=>Ac 3 fun c _=>?_;simp only[go_sem];refine M (Aa fun _ Q=>AF 9 fun l _ _ _ t Y=>Av 5 t ?_);simp only[go_sem];refine Aw t (Dy p x.name h.1.1 _ _) ?_;refine Ap 3 t ?_;simp only[go_sem,hj,optI,H];refine Ad 1 t ?_;simp only[go_sem];refine Y (Q (Aa fun _ R=>Ac 1 fun _ _=>?_));simp only[go_sem];refine R (Aa fun _ S=>Aa fun _ T=>Ac 1 fun _ _=>?_);simp only[go_sem];refine T (Ai ?_);refine Bh 6 84 5 rfl fun y I=>?_
  have A:y≠c:=Ar I 3 0 (by simp[go_sem]);have B:y≠l:=Ar I 5 0 (by simp[go_sem]);refine Ay (fun m s=>∃ k a i,k≤e.fields.length∧m=e.fields.length - k∧a≠c∧a≠l ∧
      Le { env:=[(3,.ptr ⟨c,3,0⟩ 0),(5,.ptr ⟨l,5,0⟩ 0),(7,dN k),(6,.own ⟨a,i,0⟩ k)],
           σ:=[(⟨c,3,0⟩,.box 25 (tyC x)),(⟨l,5,0⟩,.box 48 (deC e)),(⟨a,i,0⟩,.arr 84 5 ((e.fields.take k).map fun f=>Bt (DS (AD (e.formals.map (·.name)) x.args) f)))] } s) e.fields.length ?_ ?_
  · refine ⟨0,y,0,dX _,rfl,A,B,Ao ?_⟩;simp only[go_sem,tyC,A,B,A.symm,B.symm,tyC];trivial
  · rintro m s ⟨k,a,i,hk,rfl,ha0,ha1,J⟩;refine Az J ?_;clear J;by_cases b:k < e.fields.length
    · refine Aa fun _ U=>Aa fun _ V=>Ac 5 fun L a2=>?_;simp only[go_sem,tyC,tyC,b,DS,ha1];refine V (Al (Ae (U (Aa fun _ W=>Ai (Aa fun _ X=>Ac 7 fun v z=>?_)))));simp only[go_sem,getM b,ha1];refine X (Aa fun _ N=>?_);have r:v≠a:=Ar z i 0 (by simp[go_sem,ha0.symm,ha1.symm]);have n:v≠c:=Ar z 3 0 (by simp[go_sem]);have o:v≠l:=Ar z 5 0 (by simp[go_sem]);refine AF 9 fun _ _ _ _ q Z=>Av 4 q ?_;simp only[go_sem,ha1,r.symm,n.symm,o,o.symm];refine AI q rfl rfl rfl (BA e.formals (by omega) _ _) (CoL.refl _) rfl ?_;refine Av 2 q ?_;simp only[go_sem,ha0,n]
      refine AI q rfl rfl rfl (BB (e.formals.map (·.name)) x.args (by simp; omega) a4.2.2 _ (K _ (dP b)).2 _ _) (CoL.refl _) rfl ?_;refine Ap 1 q ?_;simp only[go_sem];refine Ad 1 q ?_;simp only[go_sem,r.symm,n.symm,o.symm];refine Z (N (Am fun w G _ _ F a0=>Af 3 F ?_));simp only[go_sem,r.symm,n.symm,o.symm];refine AG F rfl rfl rfl rfl rfl es42 sz84 by84 ze84 rfl (by decide) ?_;simp only[go_sem,eG (ga b),ha0.symm,ha1.symm,r];first | refine ⟨⟨by omega,by omega⟩,?_⟩ | skip
      refine Ad 1 F ?_;simp only[go_sem];refine a0 (W ?_);have C:w≠c:=Ar G 3 0 (by simp[go_sem,n]);have D:w≠l:=Ar G 5 0 (by simp[go_sem,o]);refine Ac 3 fun _ _=>?_;simp only[go_sem,tyC,tyC,DS];try simp (disch:=omega) only[Au]
      refine ⟨_,?_,k + 1,w,41,b,rfl,C,D,Ao ?_⟩
      · omega
      simp only[go_sem,← HW _ b,n,o,C,C.symm,D,D.symm];omega
    · refine Aa fun _ _=>Aa fun _ O=>Ac 5 fun L a2=>?_;simp only[go_sem,b,tyC,tyC,ha1];refine O (Aj (Aq (S (Aa fun _ P=>?_))));have:k=e.fields.length:=by omega
      subst this;refine Ac 2 fun _ _=>?_;simp only[go_sem];refine P (Ah ?_);refine AY ⟨a,i,0⟩ ?_;simp only[go_sem,ha0.symm,ha1.symm];refine Ag ?_;simp only[go_sem];exact Co.of_eq (by simp[JU,fB,fq,Bt,paC])
def FW (d:Dec) (us:List Ty) (s:Sig):Sig:=CT (AD (d.formals.map (·.name)) us) (BH s)
def seen (l:List Sig) (k:Nat) (n:Str):Bool:=(l.take k).any fun t=>decide (t.name=n)
def Bu (d:Dec) (us:List Ty):Nat→List Sig
 | 0=>[]
 | k + 1=>match d.sigs[k]? with
  | some s=>if seen d.sigs k s.name=true then Bu d us k else Bu d us k++[FW d us s]
  | none=>Bu d us k
def Eh (d:Dec) (us:List Ty):List Sig:=Bu d us d.sigs.length
theorem JH (d:Dec) (us:List Ty):∀ k,(Bu d us k).length≤k
 | 0=>ec _
 | k + 1=>by
  have:=JH d us k;simp only[Bu];split
  ·split
   ·omega
   ·simp; omega
  ·omega
theorem Fv (d:Dec) (us:List Ty) (k:Nat) (h:k < d.sigs.length):Bu d us (k + 1)=if seen d.sigs k d.sigs[k].name=true then Bu d us k else Bu d us k++[FW d us d.sigs[k]]:=by
 simp only[Bu,dO h]
def ac2 (l:List Str):List (Value × D):=l.map fun n=>(.string n,dB true)
def Wp (l:List Sig):Nat→List Str
 | 0=>[]
 | k + 1=>match l[k]? with
  | some s=>if seen l k s.name=true then Wp l k else Wp l k++[s.name]
  | none=>Wp l k
def ksS:KS:=.one .str
theorem Rh (l:List Sig) (j:Nat) (n:Str) (h:j < l.length):seen l (j + 1) n=(seen l j n || decide (l[j].name=n)):=by
 unfold seen;rw[ep,dO h,List.any_append];simp only[gh,List.any_cons,List.any_nil,Bool.or_false]
theorem XI (l:List Sig) (n:Str):seen l 0 n=false:=by simp[seen]
def meDe (p:Prg) (n m:Str):Option Dec:=(DP p n m).bind fun i=>p.decls[i]?
theorem ND {p:Prg} {n m:Str} {i:Nat} (h:DP p n m=some i):∃ hi:i < p.decls.length,meDe p n m=some p.decls[i]:=by
 obtain ⟨hi,_⟩:=eU.1 h;exact ⟨hi,by simp[meDe,h,hi]⟩
def CR (p:Prg) (x:Ty) (m:Str):Option Nat:=if BN p x 1=true then (DP p x.name m).filter fun i=>decide ((((p.decls[i]?).getD BM).vars.length:Int)=x.args.length) else none
def GB (p:Prg) (x:Ty) (m:Str):Option Dec:=(CR p x m).bind fun i=>p.decls[i]?
theorem GC (p:Prg) (x:Ty) (m:Str) (hl:p.decls.length≤2000) (g d:Nat) :
  ACalls E 96 [AZ p,AC x,encS m] [] g d (dI (optI (CR p x m))) []:=by
 have o:=CU p x 1 hl;have k:=Ma p x.name m hl;refine Ax 35 Tryz.call96 Tryz.func96 ?_;simp only[go_sem];refine Aa fun _ A=>Ac 3 fun _ _=>?_;simp only[go_sem];refine A (Aa fun _ l=>Am fun _ _ _ _ b n=>Af 4 b ?_);simp only[go_sem];cases c:BN p x 1 with
 | false =>
  have h:CR p x m=none:=by simp[CR,c]
  refine Ak b (k _ _) ?_;refine Ad 1 b ?_;simp only[go_sem];refine n (l (Aa fun _ _=>Aa fun _ G=>AE fun s t v r a e=>Av 2 a ?_));simp only[go_sem];refine Aw a (o _ _) ?_;refine Ap 18 a ?_;simp only[go_sem,c];refine e (G (Al (Aa fun _ H=>Ac 1 fun w y=>?_)));simp only[go_sem];refine H (Ah ?_);rw[h];refine Ag ?_;simp only[go_sem];exact Co.refl _
 | true =>
  cases j:DP p x.name m with
  | none =>
   have h:CR p x m=none:=by simp[CR,c,j]
   have h0:((-1:Int) < 0)=True:=by simp
   refine Ak b (k _ _) ?_;refine Ad 1 b ?_;simp only[go_sem,j,optI];refine n (l (Aa fun _ _=>Aa fun _ I=>AE fun s t v r a e=>Av 2 a ?_));simp only[go_sem];refine Aw a (o _ _) ?_;refine Ap 18 a ?_;simp only[go_sem,c,h0];refine e (I (Al (Aa fun _ J=>Ac 1 fun w y=>?_)));simp only[go_sem];refine J (Ah ?_);rw[h];refine Ag ?_;simp only[go_sem];exact Co.refl _
  | some i =>
   obtain ⟨u,L⟩:=ND j;have z:=getM (f:=Ce) u;have h0:¬ (i:Int) < 0:=by omega
   by_cases q:(p.decls[i].vars.length:Int)=x.args.length
   ·have h:CR p x m=some i:=by simp[CR,c,j,Option.filter,u,q]
    refine Ak b (k _ _) ?_;refine Ad 1 b ?_;simp only[go_sem,j,optI];refine n (l (Aa fun _ K=>Aa fun _ B=>AE fun s t v r a e=>Av 2 a ?_));simp only[go_sem];refine Aw a (o _ _) ?_;refine Ap 18 a ?_;simp only[go_sem,c,h0,z,q];refine e (B (Aj (Ae (K (Aa fun _ C=>Ac 2 fun _ _=>?_)))));simp only[go_sem];refine C (Ah ?_);rw[h];refine Ag ?_;simp only[go_sem];exact Co.refl _
   ·have h:CR p x m=none:=by simp[CR,c,j,Option.filter,u,q]
    refine Ak b (k _ _) ?_;refine Ad 1 b ?_;simp only[go_sem,j,optI];refine n (l (Aa fun _ _=>Aa fun _ D=>AE fun s t v r a e=>Av 2 a ?_));simp only[go_sem];refine Aw a (o _ _) ?_;refine Ap 18 a ?_;simp only[go_sem,c,h0,z,q];refine e (D (Al (Aa fun _ F=>Ac 1 fun w y=>?_)));simp only[go_sem];refine F (Ah ?_);rw[h];refine Ag ?_;simp only[go_sem];exact Co.refl _
def Hr (p:Prg) (x:Ty) (k:Nat) (e:Dec):Bool:=decide (DP p x.name e.sig.name=some k) && decide ((e.vars.length:Int)=x.args.length)
def mSig (x:Ty) (e:Dec):Sig:=CT (AD e.vars x.args) (BH e.sig)
def Cz (p:Prg) (x:Ty):Nat→List Sig
 | 0=>[]
 | k + 1=>match p.decls[k]? with
  | some e=>if Hr p x k e=true then Cz p x k++[mSig x e] else Cz p x k
  | none=>Cz p x k
def Cc (p:Prg) (x:Ty):List Sig:=if BN p x 1=true then Cz p x p.decls.length else []
theorem GD (p:Prg) (x:Ty) (k:Nat) (h:k < p.decls.length):Cz p x (k + 1)=if Hr p x k p.decls[k]=true then Cz p x k++[mSig x p.decls[k]] else Cz p x k:=by
 simp only[Cz,dO h]
theorem Mb (p:Prg) (x:Ty):∀ k,(Cz p x k).length≤k
 | 0=>ec _
 | k + 1=>by
  have:=Mb p x k;simp only[Cz];split
  ·split
   ·simp; omega
   ·omega
  ·omega
theorem Ri {p:Prg} {n m:Str} {k:Nat} (hk:k < p.decls.length) (h:DP p n m=some k):p.decls[k].kind=3∧p.decls[k].name=n∧p.decls[k].sig.name=m:=by
 obtain ⟨_,a,_⟩:=eU.1 h;exact of_decide_eq_true a
theorem Vo {p:Prg} (h:smPr p) {k:Nat} (hk:k < p.decls.length):smSi p.decls[k].sig∧p.decls[k].vars.length≤1000000:=by
 have:=h.1.2 _ (dP hk);exact ⟨this.2.2.2.2.2.2.1,this.2.2.2.2.2.1.1⟩
def mthI (p:Prg) (x:Ty) (k:Nat):List Sig:=if BN p x 1=true then Cz p x k else []
def Pv (p:Prg) (x:Ty) (k:Nat) (e:Dec):Bool:=decide (CR p x e.sig.name=some k)
theorem Tg (p:Prg) (x:Ty) (k:Nat) (h:k < p.decls.length):Pv p x k p.decls[k]=(BN p x 1 && Hr p x k p.decls[k]):=by
 unfold Pv CR Hr;cases BN p x 1 with
 | false=>simp
 | true =>
  cases c:DP p x.name p.decls[k].sig.name with
  | none=>simp
  | some q =>
   by_cases a:q=k
   ·subst a;by_cases b:(p.decls[q].vars.length:Int)=x.args.length
    ·simp[Option.filter,h,b]
    ·simp[Option.filter,h,b]
   ·simp[Option.filter,a]
theorem XJ (p:Prg) (x:Ty) (k:Nat) (h:k < p.decls.length):mthI p x (k + 1)=if Pv p x k p.decls[k]=true then mthI p x k++[mSig x p.decls[k]] else mthI p x k:=by
 rw[Tg p x k h];unfold mthI;rw[GD p x k h];cases BN p x 1 <;> simp
theorem Zk (p:Prg) (x:Ty) (k:Nat):(mthI p x k).length≤k:=by
 unfold mthI;split
 ·exact Mb p x k
 ·simp
theorem Zl {p:Prg} {x:Ty} {k:Nat} (h:k < p.decls.length) (hm:Pv p x k p.decls[k]=true):p.decls[k].kind=3∧p.decls[k].name=x.name:=by
 rw[Tg p x k h] at hm;simp only[Hr,ej,decide_eq_true_eq] at hm;have:=Ri h hm.2.1;exact ⟨this.1,this.2.1⟩
def acV:Prg:=⟨[],Cb⟩
def noTb:D:=.val (.pointer none)
def sP:Str:=⟨#[80]⟩
def sQ:Str:=⟨#[81]⟩
def sT1:Str:=⟨#[84]⟩
def sA1:Str:=⟨#[97]⟩
def sL1:Str:=⟨#[108]⟩
def sAny:Str:=⟨#[65,110,121]⟩
def decP:Dec:=⟨1,sP,[⟨sA1,.mk sAny [] 0,0⟩],[⟨sL1,.mk sA1 [] 0,0⟩],[],ByteArray.empty,[],Bw,Cb,0⟩
def prgP:Prg:=⟨[decP],Cb⟩
def tyPT:Ty:=.mk sP [.mk sT1 [] 0] 0
def fldT:Param:=⟨sL1,.mk sT1 [] 0,0⟩
theorem abz {f:Ty→Ty} (hf:∀ t,smTy t→smTy (f t)) (s:Sig) (h:smSi s):smSi (CT f s):=by
 obtain ⟨e,⟨g,c⟩,⟨i,d⟩,j⟩:=h;refine ⟨e,⟨by simpa [CT] using g,fun x b=>?_⟩,⟨by simpa [CT] using i,fun x b=>?_⟩,hf _ j⟩
 ·obtain ⟨y,a,rfl⟩:=eh.1 b;exact ⟨(c y a).1,hf _ (c y a).2⟩
 ·obtain ⟨y,a,rfl⟩:=eh.1 b;exact ⟨(d y a).1,hf _ (d y a).2⟩
theorem Th (ns:List Str) (us:List Ty) (hu:∀ t∈us,smTy t) (s:Sig) (h:smSi s):smSi (CT (AD ns us) s):=abz (fun t=>Bp hu t) s h
theorem abA {d:Dec} (h:smDe d) {us:List Ty} (hu:∀ t∈us,smTy t):∀ f∈JU d us,smPa f:=fun f hf=>by
 obtain ⟨y,hy,rfl⟩:=eh.1 hf;have:=h.2.2.1.2 y hy;exact ⟨this.1,Bp hu _ this.2⟩
theorem Rj {d:Dec} (h:smDe d) {us:List Ty} (hu:∀ t∈us,smTy t):∀ k,∀ s∈Bu d us k,smSi s
 | 0,s,hs=>by simp[Bu] at hs
 | k + 1,s,hs=>by
  have ih:=Rj h hu k;by_cases hk:k < d.sigs.length
  ·rw[Fv d us k hk] at hs;split at hs
   ·exact ih s hs
   ·rcases eu.1 hs with hs | hs
    ·exact ih s hs
    ·rw[eg.1 hs];exact Th _ _ hu _ (JS _ (h.2.2.2.1.2 _ (dP hk)))
  ·simp only[Bu,fh (show d.sigs.length≤k by omega)] at hs;exact ih s hs
theorem aaD {d:Dec} (h:smDe d) {us:List Ty} (hu:∀ t∈us,smTy t):(Eh d us).length≤1000000∧∀ s∈Eh d us,smSi s :=
 ⟨by have:=JH d us d.sigs.length; have:=h.2.2.2.1.1; unfold Eh; omega,Rj h hu _⟩
theorem Vp {p:Prg} (h:smPr p) {x:Ty} (hu:∀ t∈x.args,smTy t):∀ k,∀ s∈Cz p x k,smSi s
 | 0,s,hs=>by simp[Cz] at hs
 | k + 1,s,hs=>by
  have ih:=Vp h hu k;by_cases hk:k < p.decls.length
  ·rw[GD p x k hk] at hs;split at hs
   ·rcases eu.1 hs with hs | hs
    ·exact ih s hs
    ·rw[eg.1 hs];exact Th _ _ hu _ (JS _ (Vo h hk).1)
   ·exact ih s hs
  ·simp only[Cz,fh (show p.decls.length≤k by omega)] at hs;exact ih s hs
theorem XK {p:Prg} (h:smPr p) {x:Ty} (hu:∀ t∈x.args,smTy t):(Cc p x).length≤2000∧∀ s∈Cc p x,smSi s:=by
 unfold Cc;split
 ·exact ⟨by have:=Mb p x p.decls.length; have:=h.1.1; omega,Vp h hu _⟩
 ·simp
theorem NE {p:Prg} {x:Ty} {k:Int} (hk:k≠0) (h:BN p x k=true):∃ j,CF p x.name=some j:=by
 cases a:CF p x.name with
 | some j=>exact ⟨j,rfl⟩
 | none =>
  have:=ED a;simp[BN,AU,this,BM,hk.symm] at h
end Go.Proofs.T
