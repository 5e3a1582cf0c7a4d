/- A part of the proof: ZAO. -/
import Derived.Test.YtnkpcgpmgkaakaaGreatZAL
import Derived.Test.YtnkpcgpmgkaakaaGreatZAN
import Derived.Maps.RangeRun
namespace Go.Proofs.T
open Go Go.Ab Go.RowKit
theorem Id (s:Sig):(AP s).length=s.formals.length + s.params.length + 1:=by simp[AP]; omega
theorem Zy (x:Ex):(CN x).length≤(x.type :: x.targs).length:=by
 unfold CN;split <;> simp
theorem Ie (e:Ex):(Bo e).length≤wN (CA e):=by
 refine ef ?_ (FX _);unfold Bo CA;generalize AB e=l;induction l with
 | nil=>simp
 | cons x r ih =>
  rw[eO,eO,dQ,dQ];have:=Zy x;omega
theorem KX (e:Ex):(AB e).length≤wN (CA e):=by
 refine ef ?_ (FX _);unfold CA;generalize AB e=l;induction l with
 | nil=>simp
 | cons x r ih =>
  rw[eO,dQ];simp only[eB];omega
theorem Zz {α:Type} (f:α→List Ty) (l:List α):(l.flatMap f).length≤wN (l.flatMap f):=FX _
theorem aaQ (d:Dec):(Cm d).length≤wN (Bl d):=by
 unfold Cm Bl;have a:=FX (d.formals.map (·.bound));have b:=FX (d.fields.map (·.type));have c:=Zz AP d.sigs;have e:=FX (AP d.sig);have f:=Ie d.body;rw[AW,AW,AW,AW];simp only[dQ];split
 ·simp only[dQ]; omega
 ·simp only[eZ]; omega
theorem Qu (p:Prg):(tyPr p).length≤wN (Bx p):=by
 unfold tyPr Bx;have b:=Ie p.main;rw[AW,Ej];simp only[dQ];have:(p.decls.flatMap Cm).length≤(p.decls.map (fun a=>wN (Bl a))).sum:=by
  generalize p.decls=l;induction l with
  | nil=>simp
  | cons x r ih =>
   rw[eO,dQ,eM,fV];have:=aaQ x;omega
 omega
theorem XR (d:Dec):wN (AP d.sig)≤wN (Bl d):=by
 unfold Bl;rw[AW,AW,AW,AW];omega
theorem PF (d:Dec):wN (CA d.body)≤wN (Bl d):=by
 unfold Bl;rw[AW,AW,AW,AW];omega
theorem Wt (p:Prg):wN (CA p.main)≤wN (Bx p):=by
 unfold Bx;rw[AW];omega
set_option maxRecDepth 100000 in
theorem R0 (p:Prg) (hp:smPr p) (hw:wN (Bx p)≤1000000) (g q:Nat):ACalls E 24 [AZ p] [] g q (slTy (tyPr p)) []:=by
 have hT:=Qu p;obtain ⟨⟨k1,k2⟩,k3⟩:=hp;have hm:=Wt p;have b9:(tyPr p).length=(p.decls.flatMap Cm).length + (Bo p.main).length:=by simp[tyPr]
 refine Ax 86 Tryz.call24 Tryz.func24 ?_;simp only[go_sem];refine Aa fun _ an=>Ac 2 fun d _=>?_;simp only[go_sem];refine an (Aa fun _ ay=>Ac 1 fun _ _=>?_);simp only[go_sem];refine ay (Aa fun _ aE=>Aa fun _ aF=>?_);refine Bh 3 25 3 rfl fun Y b3=>?_;have J:Y≠d:=Ar b3 1 0 (by simp[go_sem]);refine Ac 1 fun _ _=>?_;simp only[go_sem];refine aF (Ai ?_);refine Ay (fun m r=>∃ k a i L,k≤p.decls.length∧m=p.decls.length - k∧a≠d∧L=(p.decls.take k).flatMap Cm ∧
   Le { env:=[(1,.ptr ⟨d,1,0⟩ 0),(4,dN k),(3,.own ⟨a,i,0⟩ L.length)],σ:=[(⟨d,1,0⟩,.box 30 (prC p)),(⟨a,i,0⟩,.arr 25 3 (L.map AC))] } r) p.decls.length ?_ ?_
 ·refine ⟨0,Y,0,[],dX _,rfl,J,by simp,Ao ?_⟩;simp only[go_sem,J,J.symm];all_goals first|trivial|omega
 ·rintro m r ⟨k,a,i,L,hk,rfl,c,y,o⟩;refine Az o ?_;clear o;refine Aa fun _ aG=>Aa fun _ a4=>?_;by_cases t:k < p.decls.length
  ·have aT:=Ov Cm t;have a6:=Et Cm t;rw[← y] at aT a6;refine Ac 5 fun g3 aZ=>?_;simp only[go_sem,t,c];refine a4 (Al (Ae (aG (Aa fun _ a5=>Ai (Aa fun _ aH=>?_)))));have b2:=getM (f:=Ce) t;have af:=k2 _ (dP t);have bj:=IR (dP t);generalize p.decls[k]=D at *;have Z:(Cm D).length=D.formals.length + D.fields.length + (D.sigs.flatMap AP).length + (if D.kind=3 then AP D.sig++Bo D.body else []).length:=by simp[Cm,fU]
   refine Ac 7 fun h aa=>?_;simp only[go_sem,b2,c];refine aH (Aa fun _ aI=>Aa fun _ ao=>?_);have b:h≠d:=Ar aa 1 0 (by simp[go_sem]);have b4:h≠a:=Ar aa i 0 (by simp[go_sem,c.symm]);have ha5:a≠h:=Ne.symm b4;refine Ac 1 fun _ _=>?_;simp only[go_sem];refine ao (Ai ?_);refine Ay (fun m r=>∃ j a i n,j≤D.formals.length∧m=D.formals.length - j∧a≠d∧a≠h∧n=L++(D.formals.take j).map (fun x=>x.bound) ∧
     Le { env:=[(1,.ptr ⟨d,1,0⟩ 0),(4,dN k),(5,.ptr ⟨h,5,0⟩ 0),(6,dN j),(3,.own ⟨a,i,0⟩ n.length)],σ:=[(⟨d,1,0⟩,.box 30 (prC p)),(⟨h,5,0⟩,.box 48 (deC D)),(⟨a,i,0⟩,.arr 25 3 (n.map AC))] } r) D.formals.length ?_ ?_
   ·refine ⟨0,a,i,L,dX _,rfl,c,ha5,by simp,Ao ?_⟩;simp only[go_sem,ha5,ha5.symm,c,c.symm,b,b.symm];all_goals first|trivial|omega
   ·rintro m r ⟨j,a,i,n,hj,rfl,c,ha5,u,o⟩;refine Az o ?_;clear o;refine Aa fun _ ap=>Aa fun _ a0=>?_;by_cases e:j < D.formals.length
    ·have aQ:n.length=L.length + j:=by rw[u,dQ,ei,eD]; omega
     have s:L++(D.formals.take (j + 1)).map (fun x=>x.bound)=n++[D.formals[j].bound]:=by rw[ep,dO e,eC,← eE,← u]; rfl
     refine Ac 5 fun g7 b1=>?_;simp only[go_sem,e,ha5,b.symm];refine a0 (Al (Ae (ap (Aa fun _ aq=>Ai (Am fun I ab _ _ U aO=>Af 8 U ?_)))));simp only[go_sem,getM e,ha5,b.symm];refine AG U rfl rfl rfl rfl rfl es23 sz25 by25 ze25 rfl (by decide) ?_;simp only[go_sem,c.symm,ha5.symm];first | refine ⟨⟨by omega,by omega⟩,?_⟩ | skip
     have R:I≠d:=Ar ab 1 0 (by simp[go_sem]);have S:I≠h:=Ar ab 5 0 (by simp[go_sem,b.symm]);refine Ad 1 U ?_;simp only[go_sem];refine aO (aq (Ac 3 fun _ _=>?_));simp only[go_sem];try simp (disch:=omega) only[Au]
     refine ⟨_,?_,j + 1,I,36,_,e,rfl,R,S,s.symm,Ao ?_⟩
     ·omega
     simp only[go_sem,b,b.symm,R,R.symm,S,S.symm];all_goals first|trivial|omega
    ·have:j=D.formals.length:=by omega
     subst this;rw[eo] at u;refine Ac 5 fun g7 b1=>?_;simp only[go_sem,e,ha5,b.symm];refine a0 (Aj (Aq (aI (Aa fun _ ar=>Aa fun _ au=>Ac 1 fun _ _=>?_))));simp only[go_sem];refine au (Ai ?_);have aP:n.length=L.length + D.formals.length:=by rw[u]; simp
     refine Ay (fun m r=>∃ j a i l,j≤D.fields.length∧m=D.fields.length - j∧a≠d∧a≠h∧l=n++(D.fields.take j).map (fun x=>x.type) ∧
       Le { env:=[(1,.ptr ⟨d,1,0⟩ 0),(4,dN k),(5,.ptr ⟨h,5,0⟩ 0),(7,dN j),(3,.own ⟨a,i,0⟩ l.length)],σ:=[(⟨d,1,0⟩,.box 30 (prC p)),(⟨h,5,0⟩,.box 48 (deC D)),(⟨a,i,0⟩,.arr 25 3 (l.map AC))] } r) D.fields.length ?_ ?_
     ·refine ⟨0,a,i,n,dX _,rfl,c,ha5,by simp,Ao ?_⟩;simp only[go_sem,c,c.symm,ha5,ha5.symm,b,b.symm];all_goals first|trivial|omega
     ·rintro m r ⟨j,a,i,l,hj,rfl,c,ha5,v,o⟩;refine Az o ?_;clear o;refine Aa fun _ av=>Aa fun _ a1=>?_;by_cases e:j < D.fields.length
      ·have aQ:l.length=n.length + j:=by rw[v,dQ,ei,eD]; omega
       have s:n++(D.fields.take (j + 1)).map (fun x=>x.type)=l++[D.fields[j].type]:=by rw[ep,dO e,eC,← eE,← v]; rfl
       refine Ac 5 fun ag aV=>?_;simp only[go_sem,e,ha5,b.symm];refine a1 (Al (Ae (av (Aa fun _ aw=>Ai (Am fun G a7 _ _ T aJ=>Af 8 T ?_)))));simp only[go_sem,getM e,ha5,b.symm];refine AG T rfl rfl rfl rfl rfl es23 sz25 by25 ze25 rfl (by decide) ?_;simp only[go_sem,c.symm,ha5.symm];first | refine ⟨⟨by omega,by omega⟩,?_⟩ | skip
       have K:G≠d:=Ar a7 1 0 (by simp[go_sem]);have N:G≠h:=Ar a7 5 0 (by simp[go_sem,b.symm]);refine Ad 1 T ?_;simp only[go_sem];refine aJ (aw (Ac 3 fun _ _=>?_));simp only[go_sem];try simp (disch:=omega) only[Au]
       refine ⟨_,?_,j + 1,G,52,_,e,rfl,K,N,s.symm,Ao ?_⟩
       ·omega
       simp only[go_sem,b,b.symm,K,K.symm,N,N.symm];all_goals first|trivial|omega
      ·have:j=D.fields.length:=by omega
       subst this;rw[eo] at v;refine Ac 5 fun ag aV=>?_;simp only[go_sem,e,ha5,b.symm];refine a1 (Aj (Aq (ar (Aa fun _ ax=>Aa fun _ az=>Ac 1 fun _ _=>?_))));simp only[go_sem];refine az (Ai ?_);have bi:=af.2.2.2.1.1;have b7:l.length=L.length + D.formals.length + D.fields.length:=by rw[v]; simp[aP]
       refine Ay (fun m r=>∃ j a i M,j≤D.sigs.length∧m=D.sigs.length - j∧a≠d∧a≠h∧M=l++(D.sigs.take j).flatMap AP ∧
         Le { env:=[(1,.ptr ⟨d,1,0⟩ 0),(4,dN k),(5,.ptr ⟨h,5,0⟩ 0),(8,dN j),(3,.own ⟨a,i,0⟩ M.length)],σ:=[(⟨d,1,0⟩,.box 30 (prC p)),(⟨h,5,0⟩,.box 48 (deC D)),(⟨a,i,0⟩,.arr 25 3 (M.map AC))] } r) D.sigs.length ?_ ?_
       ·refine ⟨0,a,i,l,dX _,rfl,c,ha5,by simp,Ao ?_⟩;simp only[go_sem,c,c.symm,ha5,ha5.symm,b,b.symm];all_goals first|trivial|omega
       ·rintro m r ⟨j,a,i,M,hj,rfl,c,ha5,w,o⟩;refine Az o ?_;clear o;refine Aa fun _ aA=>Aa fun _ a2=>?_;by_cases e:j < D.sigs.length
        ·have bb:=Ov AP e;have aU:=Et AP e;have aS:M.length=l.length + ((D.sigs.take j).flatMap AP).length:=by rw[w,dQ]
         have s:l++(D.sigs.take (j + 1)).flatMap AP=M++AP D.sigs[j]:=by rw[aU,← eE,← w]
         have bg:=Id D.sigs[j];refine Ac 5 fun ah aW=>?_;simp only[go_sem,e,ha5,b.symm];refine a2 (Al (Ae (aA (Aa fun _ aB=>Ai (Am fun H a8 _ _ z aK=>Af 6 z ?_)))));simp only[go_sem,getM e,ha5,b.symm];refine AA z rfl rfl rfl (PE D.sigs[j] (by omega) (by omega) _ _) (CoL.refl _) ?_;refine AG z rfl rfl rfl rfl rfl es23 sz25 by25 ze25 rfl (by decide) ?_;simp only[go_sem,DM,c.symm,ha5.symm];first | refine ⟨⟨by omega,by omega⟩,?_⟩ | skip
         have O:H≠d:=Ar a8 1 0 (by simp[go_sem]);have P:H≠h:=Ar a8 5 0 (by simp[go_sem,b.symm]);refine Ad 1 z ?_;simp only[go_sem];refine aK (aB (Ac 3 fun _ _=>?_));simp only[go_sem];try simp (disch:=omega) only[Au]
         refine ⟨_,?_,j + 1,H,67,_,e,rfl,O,P,s.symm,Ao ?_⟩
         ·omega
         simp only[go_sem,b,b.symm,O,O.symm,P,P.symm];all_goals first|trivial|omega
        ·have:j=D.sigs.length:=by omega
         subst this;rw[eo] at w;have aS:M.length=l.length + (D.sigs.flatMap AP).length:=by rw[w,dQ]
         have aR:M++(if D.kind=3 then AP D.sig++Bo D.body else [])=L++Cm D:=by
          rw[w,v,u];simp[Cm]
         have s:(p.decls.take (k + 1)).flatMap Cm=M++(if D.kind=3 then AP D.sig++Bo D.body else []):=by rw[a6]; exact aR.symm
         refine Ac 5 fun ah aW=>?_;simp only[go_sem,e,ha5,b.symm];refine a2 (Aj (Aq (ax (Aa fun _ a3=>?_))));by_cases F:D.kind=3
         ·have V:=eq_true F;rw[if_pos F] at s Z;rw[dQ] at Z;refine Ac 3 fun ai aX=>?_;simp only[go_sem,V,ha5,b.symm];refine a3 (Al (Aa fun _ aC=>Am fun W a9 _ _ A aL=>Af 3 A ?_));simp only[go_sem,ha5,b.symm];have bh:=Id D.sig;have bf:=XR D;have ba:=PF D;refine AA A rfl rfl rfl (PE D.sig (by omega) (by omega) _ _) (CoL.refl _) ?_;refine AG A rfl rfl rfl rfl rfl es23 sz25 by25 ze25 rfl (by decide) ?_;simp only[go_sem,DM,c.symm,ha5.symm];first | refine ⟨⟨by omega,by omega⟩,?_⟩ | skip
          have ad:W≠d:=Ar a9 1 0 (by simp[go_sem]);have ae:W≠h:=Ar a9 5 0 (by simp[go_sem,b.symm]);refine Ad 1 A ?_;simp only[go_sem];refine aL (aC (Am fun X aY _ _ B aM=>Af 3 B ?_));simp only[go_sem,b.symm,ae];refine AA B rfl rfl rfl (NN _ (smEx.ok _ af.2.2.2.2.2.2.2) (by have:=KX D.body; omega) (by have:=Ie D.body; omega) _ _) (CoL.refl _) ?_;refine AG B rfl rfl rfl rfl rfl es23 sz25 by25 ze25 rfl (by decide) ?_;simp only[go_sem,DM,ad.symm,ae.symm];first | refine ⟨⟨by omega,by omega⟩,?_⟩ | skip
          have Q:X≠d:=Ar aY 1 0 (by simp[go_sem,ad]);refine Ad 1 B ?_;simp only[go_sem];refine aM (a5 (Ac 3 fun g4 b0=>?_));simp only[go_sem];try simp (disch:=omega) only[Au]
          refine ⟨_,?_,k + 1,X,80,_,t,rfl,Q,s.symm,Ao ?_⟩
          ·omega
          simp only[go_sem,eE,fU,b,Q,Q.symm];all_goals first|trivial|omega
         ·have V:=eq_false F;rw[if_neg F,fe] at s;refine Ac 3 fun ai aX=>?_;simp only[go_sem,V,ha5,b.symm];refine a3 (Aj (Ae (a5 (Ac 3 fun g4 b0=>?_))));simp only[go_sem];try simp (disch:=omega) only[Au]
          refine ⟨_,?_,k + 1,a,i,_,t,rfl,c,s.symm,Ao ?_⟩
          ·omega
          simp only[go_sem,c,c.symm,ha5.symm,b];all_goals first|trivial|omega
  ·have:k=p.decls.length:=by omega
   subst this;rw[eo] at y;have bc:L.length + (Bo p.main).length≤1000000:=by rw[y]; omega
   refine Ac 5 fun g3 aZ=>?_;simp only[go_sem,t,c];refine a4 (Aj (Aq (aE (Aa fun _ aD=>Am fun aj _ _ _ C aN=>Af 3 C ?_))));simp only[go_sem,c];refine AA C rfl rfl rfl (NN _ (smEx.ok _ k3) (by have:=KX p.main; omega) (by have:=Ie p.main; omega) _ _) (CoL.refl _) ?_;refine AG C rfl rfl rfl rfl rfl es23 sz25 by25 ze25 rfl (by decide) ?_;simp only[go_sem,DM,c.symm];first | refine ⟨⟨by omega,by omega⟩,?_⟩ | skip
   refine Ad 1 C ?_;simp only[go_sem];refine aN (aD (Ah ?_));refine AY ⟨aj,85,0⟩ ?_;simp only[go_sem];refine Ag ?_;simp only[go_sem];exact Co.of_eq (by rw[y]; simp[tyPr])
mutual
def Br:Ty→Nat
 | .mk _ a _=>1 + DD a
def DD:List Ty→Nat
 | []=>0
 | t :: r=>if DD r < Br t then Br t else DD r
end
theorem D7 (t:Ty):Br t=1 + DD t.args:=by cases t; rfl
def dmax:List Ty→Nat→Nat
 | [],n=>n
 | t :: r,n=>dmax r (if n < Br t then Br t else n)
theorem JZ:∀ (l:List Ty) (n:Nat),n≤dmax l n
 | [],n=>ec _
 | t :: r,n=>by
  simp only[dmax];refine ef ?_ (JZ r _);split <;> omega
theorem J0:∀ (l:List Ty) (n M:Nat),n≤M→(∀ t∈l,Br t≤M)→dmax l n≤M
 | [],n,M,h,_=>h
 | t :: r,n,M,h,h2=>by
  refine J0 r _ M ?_ (fun x hx=>h2 x (ea _ hx));have:=h2 t dY;split <;> omega
theorem IT:∀ (l:List Ty) (n:Nat) (t:Ty),t∈l→Br t≤dmax l n
 | [],_,_,h=>by cases h
 | x :: r,n,t,h=>by
  simp only[dmax];rcases eq.1 h with rfl | h
  ·refine ef ?_ (JZ r _);split <;> omega
  ·exact IT r _ t h
theorem Fe:∀ l:List Ty,DD l=dmax l 0
 | []=>rfl
 | t :: r=>by
  have h1:=Fe r;apply gs
  ·rw[DD];split
   ·exact IT (t :: r) 0 t dY
   ·rw[h1];exact J0 r 0 _ (dX _) (fun x hx=>IT (t :: r) 0 x (ea _ hx))
  ·refine J0 (t :: r) 0 _ (dX _) (fun x hx=>?_);rw[DD];rcases eq.1 hx with rfl | hx
   ·split <;> omega
   ·have:=IT r 0 x hx;split <;> omega
theorem Jl {l:List Ty} {k n:Nat} (h:k < l.length):dmax (l.drop k) n=dmax (l.drop (k + 1)) (if n < Br l[k] then Br l[k] else n):=by
 rw[ek h]
 rfl
theorem KY:∀ t:Ty,Br t≤(AO t).length:=by
 intro t;induction t using Ty.ind with
 | h t ih =>
 rw[D7,DW,Fe];have:dmax t.args 0≤(BS t.args).length:=J0 _ _ _ (dX _) (fun x a=>ef (ih x a) (DA a));simp only[eB];omega
set_option maxRecDepth 100000 in
theorem HN:∀ t:Ty,okTy t→(AO t).length≤1000000→∀ g d,ACalls E 9 [AC t] [] g d (dN (Br t)) []:=by
 intro t;induction t using Ty.ind with
 | h t ih =>
 intro M q g d;have L:=(DJ t).1 M;have G:=KY t;rw[D7,Fe] at G;refine Ax 25 Tryz.call9 Tryz.func9 ?_;simp only[go_sem];refine Aa fun _ w=>Ac 2 fun f _=>?_;simp only[go_sem];refine w (Aa fun _ y=>Ac 1 fun c _=>?_);simp only[go_sem];refine y (Aa fun _ z=>Aa fun _ A=>Ac 1 fun _ _=>?_);simp only[go_sem];refine A (Ai ?_);refine Ay (fun m s=>∃ k n,k≤t.args.length∧m=t.args.length - k∧dmax (t.args.drop k) n=dmax t.args 0∧Le { env:=[(1,.ptr ⟨f,1,0⟩ 0),(3,dN (1 + n)),(4,dN k)],σ:=[(⟨f,1,0⟩,.box 25 (tyC t))] } s) t.args.length ?_ ?_
 ·refine ⟨0,0,dX _,rfl,rfl,Ao ?_⟩;simp only[go_sem,tyC];all_goals first|trivial|omega
 ·rintro m s ⟨k,n,P,rfl,b,p⟩;refine Az p ?_;clear p;refine Aa fun _ B=>Aa fun _ i=>?_;by_cases a:k < t.args.length
  ·have K:=ef (DA (dP a)) (show wN t.args≤1000000 by rw[DW] at q; simp at q; unfold wN; omega);have N:=KY t.args[k];have O:=JZ (t.args.drop k) n;rw[Jl a] at b;refine Ac 5 fun r H=>?_;simp only[go_sem,a,tyC];refine i (Al (Ae (B (Aa fun _ j=>Ai (Aa fun _ C=>Am fun _ _ _ _ e D=>Af 5 e ?_)))));simp only[go_sem,getM a];refine Ak e (ih _ (dP a) (L.2.2 _ (dP a)) K _ _) ?_;refine Ad 2 e ?_;simp only[go_sem];try simp (disch:=omega) only[Au]
   refine D (C (Aa fun _ l=>?_));by_cases o:n < Br t.args[k]
   ·have c:(1 + (Br t.args[k]:Int) > ((1 + n:Nat):Int))=True:=eq_true (by omega);rw[if_pos o] at b;refine Ac 3 fun v J=>?_;simp only[go_sem];try simp only[go_sem,c]
    refine l (Al (Ac 2 fun _ _=>?_));simp only[go_sem];refine j (Ac 3 fun u I=>?_);simp only[go_sem,tyC];try simp (disch:=omega) only[Au]
    refine ⟨_,?_,k + 1,_,a,rfl,b,Ao ?_⟩
    ·omega
    simp only[go_sem];all_goals first|trivial|omega
   ·have c:(1 + (Br t.args[k]:Int) > ((1 + n:Nat):Int))=False:=eq_false (by omega);rw[if_neg o] at b;refine Ac 3 fun v J=>?_;simp only[go_sem];try simp only[go_sem,c]
    refine l (Aj (Ae (j (Ac 3 fun u I=>?_))));simp only[go_sem,tyC];try simp (disch:=omega) only[Au]
    refine ⟨_,?_,k + 1,_,a,rfl,b,Ao ?_⟩
    ·omega
    simp only[go_sem];all_goals first|trivial|omega
  ·have:k=t.args.length:=by omega
   subst this;rw[eY] at b;have F:Br t=1 + n:=by rw[D7,Fe,← b]; rfl
   refine Ac 5 fun r H=>?_;simp only[go_sem,a,tyC];refine i (Aj (Aq (z (Aa fun _ x=>Ac 2 fun _ _=>?_))));simp only[go_sem];refine x (Ah (Ag ?_));simp only[go_sem];exact Co.of_eq (by rw[F])
noncomputable instance decMemS (s:Str) (l:List Str):Decidable (s∈l):=Classical.propDecidable _
def insS:List Str→Str→List Str
 | [],s=>[s]
 | x :: r,s=>if cmpS s x < 0 then s :: x :: r else x :: insS r s
noncomputable def putS (l:List Str) (s:Str):List Str:=if s∈l then l else insS l s
theorem Ow:∀ (l:List Str) (s:Str),(insS l s).length=l.length + 1
 | [],s=>rfl
 | x :: r,s=>by
  rw[insS];split
  ·rfl
  ·simp[Ow r s]
theorem Ox:∀ (l:List Str) (s x:Str),x∈insS l s↔x=s∨x∈l
 | [],s,x=>by simp[insS]
 | y :: r,s,x=>by
  rw[insS];split
  ·simp
  ·simp only[eq,Ox r s x];constructor
   ·rintro (h | h | h)
    ·exact .inr (.inl h)
    ·exact .inl h
    ·exact .inr (.inr h)
   ·rintro (h | h | h)
    ·exact .inr (.inl h)
    ·exact .inl h
    ·exact .inr (.inr h)
theorem IU (l:List Str) (s x:Str):x∈putS l s↔x=s∨x∈l:=by
 unfold putS;split
 ·rename_i h;exact ⟨.inr,fun a=>a.elim (fun e=>e ▸ h) id⟩
 ·exact Ox l s x
theorem PG:∀ (l:List Str) (s:Str),l.Nodup→s∉l→(insS l s).Nodup
 | [],s,_,_=>by simp[insS]
 | x :: r,s,h,hs=>by
  rw[insS];have hx:=fA.1 h;split
  ·exact fA.2 ⟨hs,h⟩
  ·refine fA.2 ⟨fun hm=>?_,PG r s hx.2 (fun hm=>hs (ea _ hm))⟩;rcases (Ox r s x).1 hm with rfl | hm
   ·exact hs dY
   ·exact hx.1 hm
theorem KZ (l:List Str) (s:Str) (h:l.Nodup):(putS l s).Nodup:=by
 unfold putS;split
 ·exact h
 ·rename_i a;exact PG l s h a
theorem Tq (l:List Str) (s:Str):(putS l s).length≤l.length + 1:=by
 unfold putS;split
 ·omega
 ·rw[Ow]; omega
set_option maxRecDepth 100000 in
theorem GJ (l:List Str) (hl:l.length≤1000000) (s:Str) (g d:Nat):ACalls E 59 [slS l,encS s] [] g d (dB (decide (s∈l))) []:=by
 refine Ax 18 Tryz.call59 Tryz.func59 ?_;simp only[go_sem];refine Aa fun _ r=>Ac 1 fun _ _=>?_;simp only[go_sem];refine r (Aa fun _ t=>Aa fun _ u=>Ac 1 fun _ _=>?_);simp only[go_sem];refine u (Ai ?_);refine Ay (fun m o=>∃ k,k≤l.length∧m=l.length - k∧s∉l.take k∧Le { env:=[(0,slS l),(1,encS s),(5,dN k)],σ:=[] } o) l.length ?_ ?_
 ·refine ⟨0,dX _,rfl,by simp,Ao ?_⟩;simp only[go_sem];all_goals first|trivial|omega
 ·rintro m o ⟨k,B,rfl,c,n⟩;refine Az n ?_;clear n;refine Aa fun _ v=>Aa fun _ i=>?_;by_cases a:k < l.length
  ·refine Ac 4 fun p z=>?_;simp only[go_sem,a];refine i (Al (Ae (v (Aa fun _ w=>Ai (Aa fun _ j=>?_)))));by_cases b:l[k]=s
   ·have f:=eq_true b;refine Ac 6 fun q A=>?_;simp only[go_sem,getM a,f];refine j (Al (Aa fun _ x=>Ac 1 fun _ _=>?_));simp only[go_sem];refine x (Ah (Ag ?_));simp only[go_sem];exact Co.of_eq (by simp[← b])
   ·have f:=eq_false b;refine Ac 6 fun q A=>?_;simp only[go_sem,getM a,f];refine j (Aj (Ae (w (Ac 3 fun _ _=>?_))));simp only[go_sem];try simp (disch:=omega) only[Au]
    refine ⟨_,?_,k + 1,a,rfl,?_,Ao ?_⟩
    ·omega
    ·rw[ep,dO a];simp only[gh,eu,eg];exact fun h=>h.elim c (fun e=>b e.symm)
    simp only[go_sem];all_goals first|trivial|omega
  ·have:k=l.length:=by omega
   subst this;rw[eo] at c;refine Ac 4 fun p z=>?_;simp only[go_sem,a];refine i (Aj (Aq (t (Aa fun _ y=>Ac 1 fun _ _=>?_))));simp only[go_sem];refine y (Ah (Ag ?_));simp only[go_sem];exact Co.of_eq (by simp[c])
set_option maxRecDepth 100000 in
theorem EG (l:List Str) (hl:l.length≤1000000) (s:Str) (hs:s.size≤9223372036854775807) (hs2:∀ x∈l,x.size≤9223372036854775807) (g d:Nat):ACalls E 29 [slS l,encS s] [] g d (slS (putS l s)) []:=by
 refine Ax 47 Tryz.call29 Tryz.func29 ?_;simp only[go_sem];refine Aa fun _ Y=>Ac 1 fun _ _=>?_;simp only[go_sem];refine Y (Aa fun _ a2=>Aa fun _ J=>Am fun _ _ _ _ q K=>Af 2 q ?_);simp only[go_sem];by_cases p:s∈l
 ·refine Ak q (GJ l hl s _ _) ?_;refine Ad 0 q ?_;simp only[go_sem,p];refine K (J (Al (Aa fun _ a3=>Ac 2 fun _ _=>?_)));simp only[go_sem];refine a3 (Ah (Ag ?_));simp only[go_sem];exact Co.of_eq (by unfold putS; rw[if_pos p])
 ·refine Ak q (GJ l hl s _ _) ?_;refine Ad 0 q ?_;simp only[go_sem,p];refine K (J (Aj (Ae (a2 (Aa fun _ a4=>Ac 1 fun _ _=>?_)))));simp only[go_sem];refine a4 (Aa fun _ a5=>?_);refine Bh 5 9 1 rfl fun X _=>?_;refine Ac 1 fun _ _=>?_;simp only[go_sem];refine a5 (Aa fun _ a6=>Aa fun _ a7=>Ac 1 fun _ _=>?_);simp only[go_sem];refine a7 (Ai ?_)
  refine Ay (fun m R=>∃ k a i b L,k≤l.length∧m=l.length - k∧(L.length≤k + b.toNat∧L++(if b then l.drop k else insS (l.drop k) s)=insS l s)∧Le { env:=[(0,slS l),(1,encS s),(5,.own ⟨a,i,0⟩ L.length),(6,dB b),(7,dN k)],σ:=[(⟨a,i,0⟩,.arr 9 1 (L.map encS))] } R) l.length ?_ ?_
  ·refine ⟨0,X,0,false,[],dX _,rfl,⟨dX _,by simp⟩,Ao ?_⟩;simp only[go_sem];all_goals first|trivial|omega
  ·rintro m R ⟨k,a,i,b,L,hk,rfl,⟨r,f⟩,P⟩;refine Az P ?_;clear P;refine Aa fun _ a8=>Aa fun _ G=>?_;by_cases c:k < l.length
   ·have ag:=hs2 _ (dP c);rw[ek c] at f;refine Ac 4 fun W ad=>?_;simp only[go_sem,c];refine G (Al (Ae (a8 (Aa fun _ u=>Ai (Aa fun _ v=>Aa fun _ w=>?_)))));cases b with
    | true =>
     simp only[hG] at r;have o:(L++[l[k]]).length≤k + 1 + true.toNat∧(L++[l[k]])++(if true=true then l.drop (k + 1) else insS (l.drop (k + 1)) s)=insS l s:=⟨by simp only[dQ,eB,eZ,hG]; omega,by rw[← f]; simp⟩
     refine Ac 11 fun F O=>?_;simp only[go_sem];refine w (Aj (Ae (v (Am fun j M Q C e n=>Af 6 e ?_))));simp only[go_sem,getM c];refine AG e rfl rfl rfl rfl rfl es44 sz9 by9 ze9 rfl (by decide) ?_;simp only[go_sem];first | refine ⟨⟨by omega,by omega⟩,?_⟩ | skip
     refine Ad 1 e ?_;simp only[go_sem];refine n (u (Ac 3 fun D N=>?_));simp only[go_sem];try simp (disch:=omega) only[Au]
     refine ⟨_,?_,k + 1,j,39,_,_,c,rfl,o,Ao ?_⟩
     ·omega
     simp only[go_sem];all_goals first|trivial|omega
    | false =>
     simp only[ig] at r;by_cases t:cmpS s l[k] < 0
     ·have z:=eq_true t;have o:(L++[s,l[k]]).length≤k + 1 + true.toNat∧(L++[s,l[k]])++(if true=true then l.drop (k + 1) else insS (l.drop (k + 1)) s)=insS l s:=⟨by simp only[dQ,eB,eZ,hG]; omega,by rw[← f]; simp[insS,t]⟩
      refine Am fun F O ae S h y=>Af 8 h ?_;simp only[go_sem,getM c];refine Ak h (BZ s l[k] hs _ _) ?_;refine Ad 2 h ?_;simp only[go_sem,z];refine y (w (Al (Aa fun _ Z=>Am fun _ _ _ _ B aa=>Af 3 B ?_)));simp only[go_sem];refine AG B rfl rfl rfl rfl rfl es44 sz9 by9 ze9 rfl (by decide) ?_;simp only[go_sem];first | refine ⟨⟨by omega,by omega⟩,?_⟩ | skip
      refine Ad 1 B ?_;simp only[go_sem];refine aa (Z (Ac 1 fun _ _=>?_));simp only[go_sem];refine v (Am fun j M Q C e n=>Af 6 e ?_);simp only[go_sem,getM c];refine AG e rfl rfl rfl rfl rfl es44 sz9 by9 ze9 rfl (by decide) ?_;simp only[go_sem];first | refine ⟨⟨by omega,by omega⟩,?_⟩ | skip
      refine Ad 1 e ?_;simp only[go_sem];refine n (u (Ac 3 fun D N=>?_));simp only[go_sem];try simp (disch:=omega) only[Au]
      refine ⟨_,?_,k + 1,j,39,_,_,c,rfl,o,Ao ?_⟩
      ·omega
      simp only[go_sem,eE];all_goals first|trivial|omega
     ·have z:=eq_false t;have o:(L++[l[k]]).length≤k + 1 + false.toNat∧(L++[l[k]])++(if false=true then l.drop (k + 1) else insS (l.drop (k + 1)) s)=insS l s:=⟨by simp only[dQ,eB,eZ,ig]; omega,by rw[← f]; simp[insS,t]⟩
      refine Am fun F O ae S h y=>Af 8 h ?_;simp only[go_sem,getM c];refine Ak h (BZ s l[k] hs _ _) ?_;refine Ad 2 h ?_;simp only[go_sem,z];refine y (w (Aj (Ae (v (Am fun j M Q C e n=>Af 6 e ?_)))));simp only[go_sem,getM c];refine AG e rfl rfl rfl rfl rfl es44 sz9 by9 ze9 rfl (by decide) ?_;simp only[go_sem];first | refine ⟨⟨by omega,by omega⟩,?_⟩ | skip
      refine Ad 1 e ?_;simp only[go_sem];refine n (u (Ac 3 fun D N=>?_));simp only[go_sem];try simp (disch:=omega) only[Au]
      refine ⟨_,?_,k + 1,j,39,_,_,c,rfl,o,Ao ?_⟩
      ·omega
      simp only[go_sem];all_goals first|trivial|omega
   ·have:k=l.length:=by omega
    subst this;rw[eY] at f;refine Ac 4 fun W ad=>?_;simp only[go_sem,c];refine G (Aj (Aq (a6 (Aa fun _ H=>Aa fun _ I=>?_))));cases b with
    | true =>
     simp only[hG] at r;refine Ac 2 fun T ab=>?_;simp only[go_sem];refine I (Aj (Ae (H (Aa fun _ a0=>Ac 2 fun V ac=>?_))));simp only[go_sem];refine a0 (Ah ?_);refine AY ⟨a,i,0⟩ ?_;simp only[go_sem];refine Ag ?_;simp only[go_sem];exact Co.of_eq (by unfold putS; rw[if_neg p,← f]; simp[])
    | false =>
     simp only[ig] at r;refine Ac 2 fun T ab=>?_;simp only[go_sem];refine I (Al (Am fun U _ _ _ A a9=>Af 3 A ?_));simp only[go_sem];refine AG A rfl rfl rfl rfl rfl es44 sz9 by9 ze9 rfl (by decide) ?_;simp only[go_sem];first | refine ⟨⟨by omega,by omega⟩,?_⟩ | skip
     refine Ad 1 A ?_;simp only[go_sem];refine a9 (H (Aa fun _ a1=>Ac 2 fun V ac=>?_));simp only[go_sem];refine a1 (Ah ?_);refine AY ⟨U,45,0⟩ ?_;simp only[go_sem];refine Ag ?_;simp only[go_sem];exact Co.of_eq (by unfold putS; rw[if_neg p,← f]; simp[insS,encS])
end Go.Proofs.T
namespace Go.Ab
open Go Go.RowKit Go.Proofs Go.Shelf
section
variable {E:Ctx} {g:Nat} {o:Oper} {e:Operand→D} {κ:Kp}
theorem XS {x:Operand} {t el:TypeId} (hop:o.op=.call { callee:=.builtin .clear,args:=#[x],argTypes:=#[t] }) {n:Nm} {k off len:Nat} (hx:e x=.osl n k off len) {rows:List D} (hκ:κ n=some (.arr el k rows))
  (he:AM E.P t=some el) {z:Value} (hz:AL E.P el=some z) (hzs:z.cells.size=k) (hz1:z.cells.toList.all Value.oneCell'=true) (hol:off + len≤rows.length) :
  TOp E g o e κ (.tup []) (κ.put n (.arr el k (rows.take off++List.replicate len (ofV z)++rows.drop (off + len)))):=by
 intro w0 hA G w a hw hV U _ K Q' Q;have Y:=hV x (by simp[hop,Op.operands,Call.operands]);rw[hx] at Y;obtain ⟨v,hρ,⟨xs,aJ,aw⟩,aH⟩:=U.ob n _ hκ;have aK:κ.put n (.arr el k rows)=κ:=by
  funext m
  simp only[Kp.put];split
  ·rename_i h; subst h; exact hκ.symm
  ·rfl
 generalize aa:a.eval x=va at Y;cases Y with
 | osl af hC b5 ha =>
  rename_i b ah L C ad;rw[hρ] at af;cases af;have hu:=BT he;have ba:AL E.P el=some z:=hz;by_cases h0:len=0
  ·subst h0;have S:(execOp a.eval o).run E.P w=.ok (.value (.tuple #[])) w:=by
    simp[execOp,hop,resolve,invoke,builtin,aa,Builtin.clear_,run_underlying hu,Result.andThen]
   refine FQ S ?_;have e1:rows.take off++List.replicate 0 (ofV z)++rows.drop (off + 0)=rows:=by simp
   rw[e1,aK] at Q;exact Q G w _ hw (.tup rfl (fun i c d h=>by simp at h)) U (.refl _ _ _ _)
  ·rcases aJ.2 with ⟨R,b9⟩ | ⟨b',aZ,f,R,ar,hh,a6,au,av,aO⟩
   ·cases R
   ·cases R;have aq:=ha (by omega);subst aq;have b3:(off + len) * k≤rows.length * k:=fw k hol;have b4:rows.length * k≤C * k:=fw k a6
    let zs:List Value:=(Builtin.zeroCells z.cells len).toList
    have N:zs.length=len * k:=by simp[zs,Builtin.zeroCells,hzs]
    have ac:∀ i j,i < len→j < k→zs[i * k + j]?=z.cells[j]?:=fun i j hi hj=>by
     have aE:i * k + j < len * k:=by have:=FT (k:=k) hi; omega
     have aG:(i * k + j) % k=j:=by rw[gf,Nat.mul_add_mod]; exact Nat.mod_eq_of_lt hj
     have J : j < z.cells.size:=by omega
     simp only[zs,Builtin.zeroCells,hzs,fk,gz,Array.getElem?_range,aE,↓reduceIte,eH,aG];rw[getElem!_pos z.cells j J,fD J]
    have aS : ∀ v∈zs,v.oneCell'=true:=fun v hv=>by
     obtain ⟨q,W,rfl⟩:=eT.1 hv;have aD:0 < k:=Nat.pos_of_ne_zero fun h=>by rw[N,h,Nat.mul_zero] at W; omega
     have aL : q < len * k:=by rw[← N]; exact W
     have u:=ac (q / k) (q % k) (il (by rw[gf]; exact aL)) (Nat.mod_lt _ aD);rw[show q / k * k + q % k=q from Nat.div_add_mod' q k,dO W] at u;have aF:zs[q]∈z.cells.toList:=by
      rw[gE];exact gB u.symm
     exact eL.1 hz1 _ aF
    have b7:(off + len) * k=off * k + len * k:=fG _ _ _;have X:=run_storeCells_at E.P b (off * k) el zs 0 f w hh (by rw[N]; omega) aS;simp only[gD] at X;generalize a7:(f.toList.take (off * k)++zs++f.toList.drop (off * k + zs.length))=s at X;have aI:s.length=f.size:=by rw[← a7]; simp; omega
    have a2:∀ m:Nat,s[m]?=if off * k≤m∧m < off * k + len * k then zs[m - off * k]? else f[m]?:=by
     intro m;rw[← a7];have a5:(f.toList.take (off * k)).length=off * k:=by simp; omega
     by_cases u:m < off * k
     ·rw[eE,eF (by omega),eb,if_pos u,if_neg (by omega)];simp
     ·by_cases I:m < off * k + len * k
      ·rw[eE,eJ (by omega),eF (by omega),a5,if_pos ⟨by omega,I⟩]
      ·have T:(f.toList.take (off * k)++zs).length=off * k + len * k:=by rw[dQ]; omega
       rw[eJ (by omega),T,eR,if_neg (by omega),N];rw[show off * k + len * k + (m - (off * k + len * k))=m by omega];simp
    have S:(execOp a.eval o).run E.P w=.ok (.value (.tuple #[])) (w.setRow b s.toArray):=by
     have u:(Builtin.clear_ #[t] o.type #[.slice (some ⟨b,off * k,none⟩) len ah]).run E.P w=.ok (.tuple #[]) (w.setRow b s.toArray):=by
      have I:(storeCells ⟨b,off * k,none⟩ (Builtin.zeroCells z.cells len).toList).run E.P w=.ok () (w.setRow b s.toArray):=X;obtain ⟨bd,rfl⟩:∃ l,len=l + 1:=⟨len - 1,by omega⟩
      simp[Builtin.clear_,run_underlying hu,Result.andThen,Sem.run_bind,Ee hz,I]
     simp[execOp,hop,resolve,invoke,builtin,aa,u,Result.andThen]
    refine FQ S ?_;have ax:Gr w (w.setRow b s.toArray) (blk (.slice (some ⟨b,0,none⟩) rows.length C)) :=
     Gr.of ⟨rfl,rfl,rfl,by simp,fun k _ hk=>setRow_other w b k _ fun he=>hk (by simp[blk,he])⟩
    have ao:∀ y O,V G w y O→V G (w.setRow b s.toArray) y O:=fun y O h=>h.mono (fun _ h=>h) (fun b' hF=>setRow_other w b b' _ fun he=>aH b rfl (he ▸ hF)) (fun _ _ h=>h);have aQ:∀ (m:Nat) y,xs[m]?=some y→f[m]?=some y:=by
     intro m y H;rw[← aO,eb] at H;split at H
     ·simpa using H
     ·cases H
    have M : (rows.take off++List.replicate len (ofV z)++rows.drop (off + len)).length=rows.length:=by simp; omega
    have aN : ∀ (i:Nat) r,(rows.take off++List.replicate len (ofV z)++rows.drop (off + len))[i]?=some r→(off≤i∧i < off + len∧r=ofV z)∨(¬ (off≤i∧i < off + len)∧rows[i]?=some r):=by
     intro i r F;have a5:(rows.take off).length=off:=by simp; omega
     by_cases u:i < off
     ·rw[eE,eF (by omega),eb,if_pos u] at F;exact .inr ⟨by omega,F⟩
     ·by_cases I:i < off + len
      ·rw[eE,eJ (by omega),eF (by simp; omega),List.getElem?_replicate,if_pos (by omega)] at F;cases F;exact .inl ⟨by omega,I,rfl⟩
      ·have T:(rows.take off++List.replicate len (ofV z)).length=off + len:=by simp; omega
       rw[eJ (by omega),T,eR,show off + len + (i - (off + len))=i by omega] at F;exact .inr ⟨by omega,F⟩
    obtain ⟨g1,g2,g3⟩:=EV (ob':=.arr el k (rows.take off++List.replicate len (ofV z)++rows.drop (off + len))) hw U hκ hρ ax ⟨s.take (rows.length * k),⟨by rw[M,eD]; omega,.inr ⟨b,C,s.toArray,by rw[M],ar,setRow_heap w b f _ el (0,0) hh,by rw[M]; exact a6,au,by simpa [aI] using av,by rw[M]⟩⟩,fun p r2 aM=>by
     rcases aN p r2 aM with ⟨Z,i3,rfl⟩ | ⟨Z,a8⟩
     ·rw[QW];refine ⟨by simp[hzs],fun A d2 B=>?_⟩;have a4:A < k:=by
       have:=(dW.1 B).1;simpa [hzs] using this
      have b2:p * k + k≤rows.length * k:=FT (by omega);have b6:off * k≤p * k:=fw k Z;have b8:p * k + k≤(off + len) * k:=FT i3;rw[eb,if_pos (by omega),a2,if_pos ⟨by omega,by omega⟩];have az:p * k + A - off * k=(p - off) * k + A:=by rw[Nat.sub_mul]; omega
      rw[az,ac _ _ (by omega) a4];have J : A < z.cells.size:=by omega
      refine ⟨z.cells[A],by simp[J],?_⟩;simp only[eK,fk,J,fD,eH,Option.some.injEq] at B;subst B;exact .val _
     ·obtain ⟨q1,q2⟩:=aw p r2 a8;refine ⟨q1,fun A d2 B=>?_⟩;obtain ⟨y,H,aR⟩:=q2 A d2 B;have a4:A < k:=by
       have:=(dW.1 B).1;omega
      have aA:=(dW.1 a8).1;have:=FT (k:=k) aA;refine ⟨y,?_,ao _ _ aR⟩;rw[eb,if_pos (by omega),a2,if_neg ?_]
      ·exact aQ _ _ H
      ·rintro ⟨k1,k2⟩;refine Z ⟨?_,?_⟩
       ·rcases ir p off with h | h
        ·have:=FT (k:=k) h; omega
        ·exact h
       ·rcases ir p (off + len) with h | h
        ·exact h
        ·have:=fw k h; omega⟩
    exact Q G _ _ g1 (.tup rfl (fun i c d h=>by simp at h)) g2 (g3.weaken fun _ _ h=>h.elim)
def acO (es:List (Value × D)) (pre:List Nat) (v:D) (pre' : List Nat):Prop :=
 (v=.tup [.val (.bool false)]∧pre'=pre∧∀ i,i < es.length→i∈pre)∨∃ i e,es[i]?=some e∧i∉pre∧v=.tup [.val (.bool true),ofV e.1,e.2]∧pre'=pre++[i]
end
section
variable {E:Ctx} {N:Nat} {st:St} {ops:List Oper} {ds:List (Option Tmp)} {g:Nat} {K:St→Prop} {o:Oper} {r:List Oper}
theorem Wu {t el:TypeId} {x:Operand} (hds:ops.map (·.dst)=ds) (hw:Cv ds st.env o.guard=some true) (hd:o.dst=none) (hop:o.op=.call { callee:=.builtin .clear,args:=#[x],argTypes:=#[t] })
  {n:Nm} {k off len:Nat} (hx:ev E st.env x=.osl n k off len) (he:AM E.P t=some el) {z:Value} (hz:AL E.P el=some z) (hzs:z.cells.size=k) (hz1:z.cells.toList.all Value.oneCell'=true)
  (h:SomeP (get st.σ n) fun ob=>SomeP (Gw el k ob) fun rows=>off + len≤rows.length∧AOps E N ops g K r { env:=st.env,σ:=set st.σ n (.arr el k (rows.take off++List.replicate len (ofV z)++rows.drop (off + len))) }):AOps E N ops g K (o :: r) st:=by
 obtain ⟨ob,b,h⟩:=h.elim;obtain ⟨rows,a,c,d⟩:=h.elim;cases ob with
 | arr i f j =>
  simp only[Gw] at a;split at a
  ·rename_i e;obtain ⟨rfl,rfl⟩:=e;cases a;refine IB (v:=.tup []) (σ:=set st.σ n (.arr i f (rows.take off++List.replicate len (ofV z)++rows.drop (off + len)))) (by rw[← Cl hds]; exact hw) ?_ (by rw[hd]; exact d);rw[KD _ _ _ (by rw[b]; simp)];exact XS hop hx b he hz hzs hz1 c
  ·cases a
 | _=>cases a
end
end Go.Ab
namespace Go.Ab
open Go Go.RowKit

end Go.Ab
namespace Go.Ab
open Go Go.RowKit Go.Proofs
def okV {β:Type} (encB:β→D) (vs:List Value) (b:β):Prop:=(encB b).cells=vs.map .val
theorem V.of_okV {β:Type} {encB:β→D} {cs:β→List D} (hag:∀ b,encB b=.agg (cs b)) {G:Gh} {w:World} {vs:List Value} {b:β} (h:okV encB vs b):V G w (.agg vs.toArray) (encB b):=by
 unfold okV at h;rw[hag] at h ⊢;have d : cs b=vs.map .val:=h;rw[d];refine .agg (by simp) fun _ _ _ c a=>?_;simp only[eK,eA] at c a;rw[c] at a;cases a;exact .val _
theorem aaR {w w' : World} (h:Bel w.heap.size w w'):∃ q os',w'=Sort.grow (w.drewN q) os':=by
 refine ⟨w'.drawn - w.drawn,w'.heap.extract w.heap.size w'.heap.size,?_⟩;have j:=h.drawn;have d:w.drawn + (w'.drawn - w.drawn)=w'.drawn:=by omega
 have e:w.heap++w'.heap.extract w.heap.size w'.heap.size=w'.heap:=by
  apply Array.ext
  ·rw[ic,Array.size_extract];have:=h.size;omega
  ·intro i b a;by_cases c:i < w.heap.size
   ·rw[Array.getElem_append_left c];have:=h.block i c;rw[fD c,fD a] at this;exact (Option.some.inj this).symm
   ·rw[Array.getElem_append_right (by omega),Array.getElem_extract]
    congr 1
    omega
 have b:=h.os;have a:=h.tape;have f:=h.output;cases w' with
 | mk heap m g k l =>
  simp only at b a f d e;subst b a f
  show _=World.mk _ _ _ _ _;simp only[World.drewN,d]
  congr 1
  exact e.symm
theorem ZA {E:Ctx} {β:Type} {k:Nat} {encB:β→D} {cs:β→List D} (hag:∀ b,encB b=.agg (cs b)) {cmp:FuncId} {cf:β→β→Int} (h:∀ x y g d,ACalls E cmp [encB x,encB y] [] g d (.val (.int .i64 (cf x y))) []):Wq E.P E.A cmp β k (okV encB) cf:=by
 intro x y w f;have m:=wf0 w;have j:=objs0 w;have l:Vs (G0 w) w #[.agg x.vs.toArray,.agg y.vs.toArray] [encB x.tag,encB y.tag]:=by
  refine ⟨rfl,fun i _ d c a=>?_⟩
  match i,c,a with
  | 0,c,a=>cases c; cases a; exact V.of_okV hag x.fit
  | 1,c,a=>cases c; cases a; exact V.of_okV hag y.fit
  | i + 2,c,a=>simp at a
 refine ((h x.tag y.tag 0 0).run w f _ w _ m l j ⟨gj 0,fun _=>rfl⟩).mono ?_;rintro e q ⟨v,p,rfl,n,o,_,_⟩;exact ⟨by rw[V.of_val o],aaR n.below⟩
end Go.Ab
namespace Go.Proofs.T
open Go Go.Ab Go.RowKit
theorem Rp:∀ x y:List UInt8,cmpL x y=- cmpL y x
 | [],[]=>by simp[cmpL]
 | [],_ :: _=>by simp[cmpL]
 | _ :: _,[]=>by simp[cmpL]
 | a :: x,b :: y=>by
  simp only[cmpL];by_cases h1:a < b
  ·have:¬ b < a:=fun h=>absurd (UInt8.lt_trans h1 h) (UInt8.lt_irrefl _);simp[h1,this]
  ·by_cases h2:b < a
   ·simp[h1,h2]
   ·simp[h1,h2,Rp x y]
theorem PH:∀ x y z:List UInt8,cmpL x y < 0→cmpL y z < 0→cmpL x z < 0
 | [],[],_,h,_=>by simp[cmpL] at h
 | [],_ :: _,[],_,h=>by simp[cmpL] at h
 | [],_ :: _,_ :: _,_,_=>by simp[cmpL]
 | _ :: _,[],_,h,_=>by simp[cmpL] at h
 | _ :: _,_ :: _,[],_,h=>by simp[cmpL] at h
 | a :: x,b :: y,c :: z,h1,h2=>by
  simp only[cmpL] at h1 h2 ⊢;by_cases hab:a < b
  ·by_cases hbc:b < c
   ·have:=UInt8.lt_trans hab hbc;simp[this]
   ·by_cases hcb:c < b
    ·simp[hbc,hcb] at h2
    ·have hbc' : b=c:=UInt8.le_antisymm (UInt8.not_lt.1 hcb) (UInt8.not_lt.1 hbc);subst hbc';simp[hab]
  ·by_cases hba:b < a
   ·simp[hab,hba] at h1
   ·have hab' : a=b:=UInt8.le_antisymm (UInt8.not_lt.1 hba) (UInt8.not_lt.1 hab);subst hab';by_cases hbc:a < c
    ·simp[hbc]
    ·by_cases hcb:c < a
     ·simp[hbc,hcb] at h2
     ·simp only[hbc,hcb,UInt8.lt_irrefl,if_false] at h1 h2 ⊢;exact PH x y z h1 h2
theorem XT (a b:Str):cmpS a b=- cmpS b a:=Rp _ _
theorem Wv {a b c:Str} (h1:cmpS a b < 0) (h2:cmpS b c < 0):cmpS a c < 0:=PH _ _ _ h1 h2
theorem Ka {l σ:Sto} (h:leS l σ):∀ n o,Ab.get l n=some o→Ab.get σ n=some o:=fun n o hn=>KM h (n,o) (AQ hn)
structure Good {β:Type} (cf:β→β→Int):Prop where
 anti:∀ x y,cf x y < 0↔0 < cf y x
 trans:∀ x y z,cf x y≤0→cf y z≤0→cf x z≤0
theorem Good.zero {β:Type} {cf:β→β→Int} (h:Good cf) (x:β):cf x x=0:=by
 have:=h.anti x x;omega
theorem Good.swo {β:Type} {cf:β→β→Int} (h:Good cf):Sort.SWO (Go.Proofs.ltOf cf) where
 irrefl x:=by
  have:=h.zero x;simp[Go.Proofs.ltOf,this]
 trans x y z h1 h2:=by
  simp only[Go.Proofs.ltOf,decide_eq_true_eq] at *;have a:=h.trans x y z (by omega) (by omega);rcases gA a with b | b
  ·exact b
  ·have i:=h.anti z x;have j:=h.anti x z;have k:=h.trans z x y (by omega) (by omega);have l:=h.anti y z;omega
 ntrans x y z h1 h2:=by
  simp only[Go.Proofs.ltOf,decide_eq_false_iff_not] at *;have c:=h.anti x y;have d:=h.anti y x;have e:=h.anti y z;have f:=h.anti z y;have a:=h.trans z y x (by omega) (by omega);have g:=h.anti x z;omega
theorem Good.lex {β:Type} {c1 c2:β→β→Int} (h1:Good c1) (h2:Good c2):Good fun x y=>if c1 x y=0 then c2 x y else c1 x y where
 anti x y:=by
  have b:=h1.anti x y;have g:=h1.anti y x;have c:=h2.anti x y;by_cases e:c1 x y=0
  ·have a : c1 y x=0:=by omega
   simp only[e,a,if_true];exact c
  ·have a : c1 y x≠0:=by omega
   simp only[e,a,if_false];exact b
 trans x y z k1 k2:=by
  have b:=h1.anti x y;have g:=h1.anti y x;have c:=h1.anti y z;have i:=h1.anti z y;have j:=h1.anti x z;have k:=h1.anti z x;have d:c1 x y≤0:=by split at k1 <;> omega
  have f:c1 y z≤0:=by split at k2 <;> omega
  have h:=h1.trans x y z d f;by_cases e:c1 x z=0
  ·rw[if_pos e];have l:=h1.trans y z x f (by omega);have m:=h1.trans z x y (by omega) d;rw[if_pos (by omega)] at k1;rw[if_pos (by omega)] at k2;exact h2.trans x y z k1 k2
  ·rw[if_neg e];exact h
theorem Good.pull {α β:Type} {cf:β→β→Int} (h:Good cf) (f:α→β):Good fun x y=>cf (f x) (f y):=⟨fun _ _=>h.anti _ _,fun _ _ _=>h.trans _ _ _⟩
def cmpI (a b:Int):Int:=if a < b then -1 else if b < a then 1 else 0
theorem Jm {a b:Int}:cmpI a b=0↔a=b:=by
 unfold cmpI;split
 ·constructor <;> omega
 ·split <;> constructor <;> omega
theorem Ww:Good cmpI:=by
 refine ⟨fun x y=>?_,fun x y _=>?_⟩
 ·unfold cmpI;split <;> split <;> (try split) <;> (try split) <;> constructor <;> omega
 ·have key:∀ a b:Int,cmpI a b≤0↔a≤b:=fun a b=>by
   unfold cmpI;split
   ·constructor <;> omega
   ·split <;> constructor <;> omega
  rw[key,key,key];omega
theorem ab4:Good cmpS:=by
 refine ⟨fun x y=>?_,fun x y _ d c=>?_⟩
 ·have:=XT x y;constructor <;> omega
 ·rcases gA d with a | a
  ·rcases gA c with b | b
   ·have:=Wv a b;omega
   ·rw[CE.1 b] at a;omega
  ·rw[CE.1 a];exact c
def ordB (b:Bool):Int:=if b then 1 else 0
theorem Tr {a b:Bool} (h:ordB a=ordB b):a=b:=by cases a <;> cases b <;> simp[ordB] at h <;> rfl
structure Nd where
 method:Bool
 name:Str
 idx:Int
instance:Inhabited Nd:=⟨⟨false,⟨#[]⟩,0⟩⟩
theorem Nd.eq_iff {a b:Nd}:a=b↔a.method=b.method∧a.name=b.name∧a.idx=b.idx:=by
 cases a;cases b;simp
def ndC (n:Nd):List D:=[dB n.method,encS n.name,dI n.idx]
def AX (n:Nd):D:=.agg (ndC n)
theorem UO (n:Nd):(AX n).cells=ndC n:=rfl
def slNd (l:List Nd):D:=.sl false (l.map AX)
attribute [go_sem] UO AX ndC slNd
theorem Rq (l:List Nd):GW 3 (l.map AX):=fun _ hr=>by
 obtain ⟨n,_,rfl⟩:=eh.1 hr
 rfl
def or3 (a b c:Int):Int:=if a=0 then (if b=0 then c else b) else a
def cfNd (x y:Nd):Int:=or3 (cmpI (ordB x.method) (ordB y.method)) (cmpS x.name y.name) (cmpI x.idx y.idx)
theorem Eu:Good cfNd :=
 (Ww.pull fun x:Nd=>ordB x.method).lex ((ab4.pull fun x:Nd=>x.name).lex (Ww.pull fun x:Nd=>x.idx))
theorem HG {x y:Nd}:cfNd x y=0↔x=y:=by
 constructor
 ·intro h;unfold cfNd or3 at h;split at h
  ·rename_i a;split at h
   ·rename_i b;exact Nd.eq_iff.2 ⟨Tr (Jm.1 a),CE.1 b,Jm.1 h⟩
   ·contradiction
  ·contradiction
 ·rintro rfl;exact Eu.zero _
def ltNd:Nd→Nd→Bool:=Go.Proofs.ltOf cfNd
theorem aaS {l l2:List Nd} (hp:l2.Perm l) (ho:l2.Pairwise fun a b=>Go.Proofs.ltOf cfNd b a=false):l2=srt ltNd l:=by
 refine KT Eu.swo (fun a _ b _ c d=>?_) hp ho;simp only[Go.Proofs.ltOf,decide_eq_false_iff_not] at c d;have e:=Eu.anti a b;have f:=Eu.anti b a;exact HG.1 (by omega)
theorem NO (b:Bool) (g d:Nat):ACalls E 138 [dB b] [] g d (dI (ordB b)) []:=by
 refine Ax 4 Tryz.call138 Tryz.func138 ?_;simp only[go_sem];refine Aa fun _ a=>Ac 1 fun _ _=>?_;simp only[go_sem];refine a (Aa fun _ c=>Aa fun _ e=>Ac 1 fun _ _=>?_);simp only[go_sem];refine e ?_;cases b with
 | true =>
  refine Al (Aa fun _ f=>Ac 1 fun _ _=>?_);simp only[go_sem];refine f (Ah (Ag ?_));simp only[go_sem];exact Co.refl _
 | false =>
  refine Aj (Ae (c (Aa fun _ h=>Ac 1 fun _ _=>?_)));simp only[go_sem];refine h (Ah (Ag ?_));simp only[go_sem];exact Co.refl _
theorem Mp (a:Int) (g d:Nat):ACalls E 158 [dI a] [] g d (dB false) []:=by
 refine Ax 6 Tryz.call158 Tryz.func158 ?_;simp only[go_sem];refine Aa fun _ b=>Ac 1 fun _ _=>?_;simp only[go_sem];refine b (Aa fun _ c=>Ac 4 fun _ _=>?_);simp only[go_sem];refine c (Ah (Ag ?_));simp only[go_sem];exact Co.refl _
theorem Mq (a b:Int) (g d:Nat):ACalls E 137 [dI a,dI b] [] g d (dI (cmpI a b)) []:=by
 refine Ax 20 Tryz.call137 Tryz.func137 ?_;simp only[go_sem];refine Aa fun _ m=>Ac 1 fun _ _=>?_;simp only[go_sem];refine m (Aa fun _ r=>Am fun _ _ _ _ e y=>Af 1 e ?_);simp only[go_sem];refine Ak e (Mp _ _ _) ?_;refine Ad 1 e ?_;simp only[go_sem];refine y (r (Aa fun _ s=>Am fun _ _ _ _ f z=>Af 1 f ?_));simp only[go_sem];refine Ak f (Mp _ _ _) ?_;refine Ad 1 f ?_;simp only[go_sem];refine z (s (Aa fun _ t=>Aa fun _ u=>Ac 1 fun _ _=>?_));simp only[go_sem];refine u (Aj (Ae (t (Aa fun _ v=>Aa fun _ w=>Ac 1 fun _ _=>?_))));simp only[go_sem];refine w (Aj (Ae (v (Aa fun _ x=>Aa fun _ j=>?_))))
 by_cases h:a < b
 ·refine Ac 3 fun l B=>?_;simp only[go_sem,h];refine j (Al (Aa fun _ n=>Ac 1 fun _ _=>?_));simp only[go_sem];refine n (Ah (Ag ?_));simp only[go_sem];exact Co.of_eq (by simp[cmpI,h])
 ·refine Ac 3 fun l B=>?_;simp only[go_sem,h];refine j (Aj (Ae (x (Aa fun _ o=>Aa fun _ i=>?_))));by_cases c:b < a
  ·refine Ac 3 fun k A=>?_;simp only[go_sem,c];refine i (Al (Aa fun _ p=>Ac 1 fun _ _=>?_));simp only[go_sem];refine p (Ah (Ag ?_));simp only[go_sem];exact Co.of_eq (by simp[cmpI,h,c])
  ·refine Ac 3 fun k A=>?_;simp only[go_sem,c];refine i (Aj (Ae (o (Aa fun _ q=>Ac 1 fun _ _=>?_))));simp only[go_sem];refine q (Ah (Ag ?_));simp only[go_sem];exact Co.of_eq (by simp[cmpI,h,c])
theorem XU (x:Bool) (a b c:Int) (g d:Nat):ACalls E 136 [.sl x [dI a,dI b,dI c]] [] g d (dI (or3 a b c)) []:=by
 refine Ax 18 Tryz.call136 Tryz.func136 ?_;simp only[go_sem];refine Aa fun _ F=>Ac 1 fun _ _=>?_;simp only[go_sem];refine F (Aa fun _ P=>Ac 1 fun _ _=>?_);simp only[go_sem];refine P (Aa fun _ U=>Aa fun _ V=>Ac 3 fun _ _=>?_);simp only[go_sem];refine V (Ai ?_);refine Ay (fun m s=>∃ k,k≤3∧m=3 - k∧(0 < k→a=0)∧(1 < k→b=0)∧(2 < k→c=0) ∧
   Le { env:=[(6,.sl x [dI a,dI b,dI c]),(7,dI 3),(8,dN k),(3,dI 0)],σ:=[] } s) 3 ?_ ?_
 ·refine ⟨0,by omega,rfl,by omega,by omega,by omega,Ao ?_⟩;simp only[go_sem];trivial
 ·rintro m s ⟨k,o,rfl,f,h,j,D⟩;refine Az D ?_;clear D
  match k,o,f,h,j with
  | 0,o,f,h,j =>
   refine Aa fun _ W=>Ac 1 fun q r=>?_;simp only[go_sem];refine W (Aa fun _ X=>Al (Ae (X (Aa fun _ Y=>Ai (Aa fun _ Z=>Ac 3 fun t A=>?_)))));simp only[go_sem];refine Z (Aa fun _ z=>?_);by_cases e:a=0
   ·subst e;refine Ac 3 fun l n=>?_;simp only[go_sem];refine z (Aj (Ae (Y (Ac 2 fun v C=>?_))));simp only[go_sem];try simp (disch:=omega) only[Au]
    refine ⟨_,?_,1,by omega,rfl,by simp,by omega,by omega,Ao ?_⟩
    ·omega
    simp only[go_sem];omega
   ·refine Ac 3 fun l n=>?_;simp only[go_sem,e];refine z (Al (Aa fun _ G=>Ac 2 fun u B=>?_));simp only[go_sem];refine G (Ah (Ag ?_));simp only[go_sem];exact Co.of_eq (by simp[or3,e])
  | 1,o,f,h,j =>
   have e:=f (by omega);subst e;refine Aa fun _ H=>Ac 1 fun q r=>?_;simp only[go_sem];refine H (Aa fun _ I=>Al (Ae (I (Aa fun _ J=>Ai (Aa fun _ K=>Ac 3 fun t A=>?_)))));simp only[go_sem];refine K (Aa fun _ w=>?_);by_cases i:b=0
   ·subst i;refine Ac 3 fun l n=>?_;simp only[go_sem];refine w (Aj (Ae (J (Ac 2 fun v C=>?_))));simp only[go_sem];try simp (disch:=omega) only[Au]
    refine ⟨_,?_,2,by omega,rfl,by simp,by simp,by omega,Ao ?_⟩
    ·omega
    simp only[go_sem];omega
   ·refine Ac 3 fun l n=>?_;simp only[go_sem,i];refine w (Al (Aa fun _ L=>Ac 2 fun u B=>?_));simp only[go_sem];refine L (Ah (Ag ?_));simp only[go_sem];exact Co.of_eq (by simp[or3,i])
  | 2,o,f,h,j =>
   have e:=f (by omega);have i:=h (by omega);subst e i;refine Aa fun _ M=>Ac 1 fun q r=>?_;simp only[go_sem];refine M (Aa fun _ N=>Al (Ae (N (Aa fun _ O=>Ai (Aa fun _ Q=>Ac 3 fun t A=>?_)))));simp only[go_sem];refine Q (Aa fun _ y=>?_);by_cases p:c=0
   ·subst p;refine Ac 3 fun l n=>?_;simp only[go_sem];refine y (Aj (Ae (O (Ac 2 fun v C=>?_))));simp only[go_sem];try simp (disch:=omega) only[Au]
    refine ⟨_,?_,3,by omega,rfl,by simp,by simp,by simp,Ao ?_⟩
    ·omega
    simp only[go_sem];omega
   ·refine Ac 3 fun l n=>?_;simp only[go_sem,p];refine y (Al (Aa fun _ R=>Ac 2 fun u B=>?_));simp only[go_sem];refine R (Ah (Ag ?_));simp only[go_sem];exact Co.of_eq (by simp[or3])
  | 3,o,f,h,j =>
   have e:=f (by omega);have i:=h (by omega);have p:=j (by omega);subst e i p;refine Aa fun _ S=>Ac 1 fun q r=>?_;simp only[go_sem];refine S (Aa fun _ _=>Aj (Aq (U (Aa fun _ T=>Ac 2 fun _ _=>?_))));simp only[go_sem];refine T (Ah (Ag ?_));simp only[go_sem];exact Co.of_eq (by simp[or3])
theorem PI (x y:Nd) (g d:Nat):ACalls E 101 [AX x,AX y] [] g d (dI (cfNd x y)) []:=by
 refine Ax 24 Tryz.call101 Tryz.func101 ?_;simp only[go_sem];refine Aa fun _ b=>Ac 3 fun _ _=>?_;simp only[go_sem];refine b (Aa fun _ c=>AF 19 fun _ _ _ _ a e=>Av 2 a ?_);simp only[go_sem];refine Aw a (NO _ _ _) ?_;refine Av 2 a ?_;simp only[go_sem];refine Aw a (NO _ _ _) ?_;refine Aw a (Mq _ _ _ _) ?_;refine Av 4 a ?_;simp only[go_sem];refine Aw a (Nn _ _ _ _) ?_;refine Av 4 a ?_;simp only[go_sem];refine Aw a (Mq _ _ _ _) ?_;refine Av 1 a ?_;simp only[go_sem];refine Aw a (XU _ _ _ _ _ _) ?_;refine Ap 0 a ?_;simp only[go_sem];refine Ad 1 a ?_;simp only[go_sem]
 refine e (c (Ah (Ag ?_)));simp only[go_sem];exact Co.refl _
theorem ZB:Wq Tryz.prog E.A 101 Nd 3 (okV AX) cfNd:=ZA (E:=E) (fun _=>rfl) fun x y g d=>PI x y g d
theorem Ts (l:List Nd) (hl:l.length≤1000000) (n:Nm) (g d:Nat) :
  ACalls E 100 [.own n l.length,.func (.func 101) [] []] [(n,.arr 139 3 (l.map AX))] g d (.tup []) [(n,.arr 139 3 ((srt ltNd l).map AX))] :=
 UK (E:=E) (k:=3) (ok:=okV AX) (encB:=AX) Tryz.laySortNode (by kernel_rfl) (by kernel_rfl) Tryz.call100 ag139 sz139 (by decide) (fun _=>⟨rfl,rfl⟩)
  (fun G w vs b h=>by
   have h' : Vs G w vs ([.bool b.method,.string b.name,.int .i64 b.idx].map .val):=h;rw[Vs.toVals h']
   rfl)
  Eu.swo abw ZB Tryz.call101 (by omega) (fun _ hp ho=>aaS hp ho) n g d
open Classical in
noncomputable def cpU (L:List Nd):Nat→List Nd
 | 0=>[]
 | m + 1=>if 0 < m∧L[m]?=L[m - 1]? then cpU L m else cpU L m++(L[m]?).toList
theorem Oy {L:List Nd} {m:Nat} (hm:0 < m) (h:L[m]?=L[m - 1]?):cpU L (m + 1)=cpU L m:=by
 rw[cpU,if_pos ⟨hm,h⟩]
theorem Kb {L:List Nd} {m:Nat} {x:Nd} (hx:L[m]?=some x) (h:0 < m→L[m - 1]?≠some x):cpU L (m + 1)=cpU L m++[x]:=by
 rw[cpU,if_neg (fun k=>h k.1 (by rw[← k.2]; exact hx)),hx]
 rfl
theorem Vy (L:List Nd):∀ m,(cpU L m).length≤m
 | 0=>ec _
 | m + 1=>by
  have ih:=Vy L m;rw[cpU];split
  ·omega
  ·rw[dQ];cases L[m]? <;> simp <;> omega
theorem Vz (L:List Nd) (x:Nd):∀ m,x∈cpU L m↔x∈L.take m
 | 0=>by simp[cpU]
 | m + 1=>by
  have ih:=Vz L x m;rw[cpU,ep,eu,← ih];split
  ·rename_i h;constructor
   ·exact .inl
   ·rintro (h1 | h1)
    ·exact h1
    ·rw[ih];rw[h.2] at h1;have h2:L[m - 1]?=some x:=by simpa [Option.mem_toList] using h1
     have a:=(dW.1 h2).1;refine ew (i:=m - 1) ?_;rw[eb,if_pos (by omega)];exact h2
  ·rw[eu]
theorem aaT (L:List Nd) (x:Nd):x∈cpU L L.length↔x∈L:=by rw[Vz,eo]
theorem PJ {L:List Nd} (h:Ord ltNd L):∀ m,m≤L.length→(cpU L m).Pairwise (fun a b=>cfNd a b < 0)∧∀ x∈cpU L m,∀ y,L[m - 1]?=some y→cfNd x y≤0
 | 0,_=>⟨by simp[cpU],by simp[cpU]⟩
 | m + 1,hm=>by
  obtain ⟨h1,h2⟩:=PJ h m (by omega);have hx:L[m]?=some L[m]:=dO (by omega);have hle:∀ y,0 < m→L[m - 1]?=some y→cfNd y L[m]≤0:=fun y h0 hy=>by
   have hlt:=(dW.1 hy).1;have hyv:=(dW.1 hy).2;have:=gT.1 h (m - 1) m hlt (by omega) (by omega);rw[hyv] at this;simp only[ltNd,Go.Proofs.ltOf,decide_eq_false_iff_not] at this;have:=Eu.anti L[m] y;omega
  by_cases hs:0 < m∧L[m]?=L[m - 1]?
  ·rw[Oy hs.1 hs.2];refine ⟨h1,fun x hx y hy=>h2 x hx y ?_⟩;rw[← hs.2];simpa using hy
  ·have hne:0 < m→L[m - 1]?≠some L[m]:=fun h0 he=>hs ⟨h0,by rw[he]; exact hx⟩;rw[Kb hx hne];have key:∀ x∈cpU L m,cfNd x L[m] < 0:=fun x hxm=>by
    have h0:0 < m:=by
     cases m with
     | zero=>simp[cpU] at hxm
     | succ m=>omega
    have hy:L[m - 1]?=some L[m - 1]:=dO (by omega);have i:=h2 x hxm _ hy;have j:=hle _ h0 hy;have l:cfNd L[m - 1] L[m]≠0:=fun e=>hne h0 (by rw[hy,HG.1 e]);have k:=Eu.trans _ _ _ i j;rcases gA k with c | c
    ·exact c
    ·have e:=HG.1 c;subst e;have n:=Eu.anti L[m] L[m - 1];have o:=Eu.anti L[m - 1] L[m];omega
   refine ⟨?_,fun x hxm y hy=>?_⟩
   ·rw[List.pairwise_append];refine ⟨h1,by simp,fun a d b f=>?_⟩;rw[eg.1 f];exact key a d
   ·have g : y=L[m]:=by
     have:L[m]?=some y:=by simpa using hy
     rw[hx] at this;exact (Option.some.inj this).symm
    subst g;rcases eu.1 hxm with hxm | hxm
    ·have:=key x hxm;omega
    ·rw[eg.1 hxm,Eu.zero];omega
theorem XV {L:List Nd} (h:Ord ltNd L):(cpU L L.length).Nodup:=by
 refine (PJ h L.length (ec _)).1.imp fun {a b} h e=>?_;subst e;rw[Eu.zero] at h;omega
theorem ndEq {X Y:Nd} (h:X≠Y):¬ (X.method=Y.method∧X.name=Y.name∧X.idx=Y.idx):=fun e=>h (Nd.eq_iff.2 e)
theorem XW (j:Nat) (h:j≤1000000):IntKind.i64.wrap (((j + 1:Nat):Int) - 1)=(j:Int):=by
 have e:((j + 1:Nat):Int) - 1=(j:Int):=by omega
 rw[e];exact Au _ (by omega) (by omega)
theorem XX (n j:Nat):((n:Int) - (j:Int)).toNat=n - j:=by omega
set_option maxRecDepth 100000 in
theorem Sa (L:List Nd) (hL:L.length≤1000000) (n:Nm) (g d:Nat) :
  ACalls E 102 [.own n L.length] [(n,.arr 139 3 (L.map AX))] g d (slNd (cpU L L.length)) []:=by
 refine Ax 61 Tryz.call102 Tryz.func102 ?_;simp only[go_sem];refine Aa fun _ aq=>Ac 1 fun _ c=>?_;simp only[go_sem];refine aq (Aa fun _ az=>Aa fun _ a0=>?_);by_cases h2:L.length < 2
 ·have I:cpU L L.length=L:=by
   match L,h2 with
   | [],_=>rfl
   | [x],_=>rw[show [x].length=0 + 1 from rfl,Kb (x:=x) rfl (by simp)]; rfl
  have C : ((L.length:Int) < 2)=True:=eq_true (by omega);refine Ac 3 fun g1 b=>?_;simp only[go_sem,C];refine a0 (Al (Aa fun _ aC=>Ac 2 fun _ _=>?_));simp only[go_sem];refine aC (Ah ?_);refine AY n ?_;simp only[go_sem];refine Ag ?_;simp only[go_sem];exact Co.of_eq (by rw[I])
 ·have C : ((L.length:Int) < 2)=False:=eq_false (by omega);refine Ac 3 fun g1 b=>?_;simp only[go_sem,C];refine a0 (Aj (Ae (az (Aa fun _ aD=>Aa fun _ aE=>Ac 1 fun _ _=>?_))));simp only[go_sem];refine aE (Ai ?_);refine Ay (fun m s=>∃ j,j + 1≤L.length∧m=L.length - j∧cpU L (j + 1)=L.take (j + 1)∧Le { env:=[(0,.own n L.length),(3,dN (j + 1))],σ:=[(n,.arr 139 3 (L.map AX))] } s) L.length ?_ ?_
  ·refine ⟨0,by omega,rfl,?_,Ao ?_⟩
   ·have hx:L[0]?=some L[0]:=dO (by omega);rw[Kb hx (by simp),ep,hx]
    rfl
   simp only[go_sem];all_goals first|trivial|omega
  ·rintro m s ⟨j,hj,rfl,K,u⟩;refine Az u ?_;clear u;have a5:=XW j (by omega);refine Aa fun _ aF=>Aa fun _ a1=>?_;by_cases p:j + 1 < L.length
   ·have b:=getM (f:=AX) p;have c:=getM (f:=AX) (show j < L.length by omega);have B:L[j + 1]?=some L[j + 1]:=dO p;have e0:L[j]?=some L[j]:=dO (by omega);have a3 : j < L.length:=by omega
    refine Ac 4 fun g4 aM=>?_;simp only[go_sem,p];refine a1 (Al (Ae (aF (Aa fun _ aG=>Ai (Aa fun _ T=>?_)))));generalize L[j + 1]=X at *;generalize L[j]=Y at *;by_cases o:X=Y
    ·subst o;have a4:cpU L (j + 1 + 1)=L.take (j + 1):=by rw[Oy (by omega) (by rw[B]; exact e0.symm)]; exact K
     have aQ:((j + 1:Nat):Int)≤(L.length:Int):=by omega
     refine AE fun g6 aN aS ab O G=>Ap 10 O ?_;simp only[go_sem,p,a3,a5,b,c];try simp (disch:=omega) only[Au,Ba,dZ,ed]
     refine G (T (Al (Aa fun _ ar=>Ac 4 fun _ _=>?_)));simp only[go_sem,(show (0 < L.length)=True from eq_true (by omega)),aQ,XX,ec];refine ar (Aa fun _ au=>Aa fun _ av=>Ac 1 fun _ _=>?_);simp only[go_sem];refine av (Ai ?_);clear b c;refine Ay (fun m s=>∃ (i k:Nat) (R:List Nd),i + 1≤L.length - (j + 1)∧m=L.length - i∧R.length=L.length∧k≤j + 1 + i∧(cpU L (j + 1 + (i + 1))).length=k∧R.take k=cpU L (j + 1 + (i + 1))∧(∀ q,j + 1 + i≤q→R[q]?=L[q]?) ∧
       Le { env:=[(0,.own n L.length),(3,dN k),(4,.osl n 3 (j + 1) (L.length - (j + 1))),(5,dN (i + 1))],σ:=[(n,.arr 139 3 (R.map AX))] } s) L.length ?_ ?_
     ·refine ⟨0,j + 1,L,by omega,rfl,rfl,by omega,?_,?_,fun q _=>rfl,Ao ?_⟩
      ·rw[eN,a4,eD]; omega
      ·rw[eN,a4]
      simp only[go_sem];all_goals first|trivial|omega
     ·rintro m s ⟨i,k,R,hi,rfl,a2,hk,J,z,y,u⟩;refine Az u ?_;clear u;have a6:=XW i (by omega);refine Aa fun _ aw=>Aa fun _ U=>?_;by_cases v:i + 1 < L.length - (j + 1)
      ·have f1:R[j + 1 + (i + 1)]?=some L[j + 1 + (i + 1)]:=by rw[y _ (by omega)]; exact dO (by omega)
       have f0:R[j + 1 + i]?=some L[j + 1 + i]:=by rw[y _ (by omega)]; exact dO (by omega)
       have l1:L[j + 1 + (i + 1)]?=some L[j + 1 + (i + 1)]:=dO (by omega);have l0:L[j + 1 + i]?=some L[j + 1 + i]:=dO (by omega);refine Ac 4 fun g9 aO=>?_;simp only[go_sem,v];refine U (Al (Ae (aw (Aa fun _ V=>Ai (Aa fun _ W=>?_)))));generalize L[j + 1 + (i + 1)]=t at *;generalize L[j + 1 + i]=P at *;have b:(R.map AX)[j + 1 + (i + 1)]?=some (AX t):=by rw[eK,f1]; rfl
       have c:(R.map AX)[j + 1 + i]?=some (AX P):=by rw[eK,f0]; rfl
       have Q:(i < L.length - (j + 1))=True:=eq_true (by omega);have A:(j + 1 + (L.length - (j + 1))≤R.length)=True:=eq_true (by omega);by_cases o:t=P
       ·subst o;have e:=Oy (L:=L) (m:=j + 1 + (i + 1)) (by omega) (by rw[l1,show j + 1 + (i + 1) - 1=j + 1 + i by omega]; exact l0.symm);refine AE fun al aL aR aa M F=>Ap 10 M ?_;simp only[go_sem,v,a6,b,c,Q,A];try simp (disch:=omega) only[Au,Ba,dZ,ed]
        refine F (W (Aj (Ae (V (Ac 3 fun ak aK=>?_)))));simp only[go_sem];try simp (disch:=omega) only[Au]
        refine ⟨_,?_,i + 1,k,R,by omega,rfl,a2,by omega,?_,?_,fun q h=>y q (by omega),Ao ?_⟩
        ·omega
        ·rw[← J,← e]; rfl
        ·rw[z,← e]; rfl
        simp only[go_sem];all_goals first|trivial|omega
       ·have e:=Kb (L:=L) (m:=j + 1 + (i + 1)) l1 (fun _ h=>by rw[show j + 1 + (i + 1) - 1=j + 1 + i by omega,l0] at h; exact o (Option.some.inj h).symm);have c3:(k < R.length)=True:=eq_true (by omega);have aP:=getM (f:=AX) (l:=R) (k:=k) (by omega);refine AE fun al aL aR aa M F=>Ap 10 M ?_;simp only[go_sem,ndEq o,v,a6,b,c,Q,A];try simp (disch:=omega) only[Au,Ba,dZ,ed]
        refine F (W (Al (Aa fun _ ax=>Ac 8 fun _ _=>?_)));simp only[go_sem,c3,aP,v,b,A];refine ax (Ac 3 fun _ _=>?_);simp only[go_sem];try simp (disch:=omega) only[Au]
        refine V (Ac 3 fun ak aK=>?_);simp only[go_sem];try simp (disch:=omega) only[Au]
        refine ⟨_,?_,i + 1,k + 1,R.set k t,by omega,rfl,by rw[gg]; exact a2,by omega,?_,?_,fun q h=>?_,Ao ?_⟩
        ·omega
        ·have:cpU L (j + 1 + (i + 1 + 1))=cpU L (j + 1 + (i + 1))++[t]:=e;rw[this,dQ,J]
         rfl
        ·have:cpU L (j + 1 + (i + 1 + 1))=cpU L (j + 1 + (i + 1))++[t]:=e;rw[this,ep,List.getElem?_set_self (by omega),List.take_set_of_le (ec _),z]
         rfl
        ·rw[List.getElem?_set_ne (by omega)];exact y q (by omega)
        simp only[go_sem,gS];all_goals first|trivial|omega
      ·have w:j + 1 + (i + 1)=L.length:=by omega
       rw[w] at J z;have c4:(0 < R.length)=True:=eq_true (by omega);have c5:(k≤R.length)=True:=eq_true (by omega);refine Ac 4 fun g9 aO=>?_;simp only[go_sem,v];refine U (Aj (Aq (au (Aa fun _ ay=>Am fun _ _ _ _ N aH=>Af 3 N ?_))));simp only[go_sem,c4,c5,XX,ec];refine Wu N rfl rfl rfl rfl es96 ze139 rfl (by decide) ?_;simp only[go_sem];first | refine ⟨by omega,?_⟩ | skip
       generalize H:List.take k (List.map AX R)++List.replicate (R.length - k) (D.agg [D.val (Value.bool false),D.val (Value.string ByteArray.empty),D.val (Value.int IntKind.i64 0)])++List.drop (k + (R.length - k)) (List.map AX R)=Z;have aY:k≤R.length:=by omega
       have aU:Z.length=R.length:=by rw[← H]; simp; omega
       have aJ:Z.take k=(cpU L L.length).map AX:=by
        rw[← H,eE,List.take_append_of_le_length (by simp; omega),List.take_take,Nat.min_self,← List.map_take,z]
       have aI:GW 3 Z:=fun r a=>by
        rw[← H] at a;rcases eu.1 a with a | a
        ·rcases eu.1 a with a | a
         ·exact Rq R r (ff a)
         ·rw[(List.mem_replicate.1 a).2]; rfl
        ·exact Rq R r (List.mem_of_mem_drop a)
       have c6:(0 < Z.length)=True:=eq_true (by omega);have S:(k≤Z.length)=True:=eq_true (by omega);have c8:((k:Int) - 0).toNat=k:=by omega
       have c9:(0 + k≤Z.length)=True:=eq_true (by omega);refine Ad 0 N ?_;simp only[go_sem];refine aH (ay (Aa fun _ aA=>Ac 4 fun _ _=>?_));simp only[go_sem,c6,S,c8,Int.le_refl];refine aA (Ah ?_);refine AY n ?_;simp only[go_sem,S,aI,aJ];refine Ag ?_;simp only[go_sem];exact Co.refl _
    ·have e:=Kb (L:=L) (m:=j + 1) B (fun _ h=>by rw[show j + 1 - 1=j by omega,e0] at h; exact o (Option.some.inj h).symm);refine AE fun g6 aN aS ab O G=>Ap 10 O ?_;simp only[go_sem,ndEq o,p,a3,a5,b,c];try simp (disch:=omega) only[Au,Ba,dZ,ed]
     refine G (T (Aj (Ae (aG (Ac 3 fun _ _=>?_)))));simp only[go_sem];try simp (disch:=omega) only[Au]
     refine ⟨_,?_,j + 1,by omega,rfl,?_,Ao ?_⟩
     ·omega
     ·rw[e,K,ep (l:=L) (i:=j + 1),B]
      rfl
     simp only[go_sem];all_goals first|trivial|omega
   ·have w:j + 1=L.length:=by omega
    have I:cpU L L.length=L:=by rw[← w,K,w,eo]
    refine Ac 4 fun g4 aM=>?_;simp only[go_sem,p];refine a1 (Aj (Aq (aD (Aa fun _ aB=>Ac 2 fun _ _=>?_))));simp only[go_sem];refine aB (Ah ?_);refine AY n ?_;simp only[go_sem];refine Ag ?_;simp only[go_sem];exact Co.of_eq (by rw[I])
end Go.Proofs.T
