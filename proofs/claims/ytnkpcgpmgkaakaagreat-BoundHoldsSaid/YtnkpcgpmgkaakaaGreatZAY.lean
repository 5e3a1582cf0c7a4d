/- A part of the proof: ZAY. -/
import Derived.Test.YtnkpcgpmgkaakaaGreatZAX
namespace Go.Proofs.T
open Go Go.Ab Go.RowKit
theorem ZS {p:Prg} (hp:smPr p):∀ t∈tyPr p,smTy t:=by
 have k:∀ s:Sig,smSi s→∀ t∈AP s,smTy t:=fun s g t a=>by
  unfold AP at a;simp only[eu,eh,eg] at a;rcases a with (⟨f,c,rfl⟩ | ⟨f,c,rfl⟩) | rfl
  ·exact (g.2.1.2 f c).2
  ·exact (g.2.2.1.2 f c).2
  ·exact g.2.2.2
 have j:∀ e:Ex,smEx e→∀ t∈Bo e,smTy t:=by
  intro e i t a;unfold Bo at a;obtain ⟨x,b,a⟩:=ez.1 a;have n:∀ e:Ex,smEx e→∀ x∈AB e,smEx x:=by
   refine Ex.ind fun e ih i x b=>?_;rw[BC] at b;rcases eq.1 b with rfl | b
   ·exact i
   ·rw[BF] at b;obtain ⟨y,l,b⟩:=ez.1 b;exact ih y l (((Bd e).1 i).2.2.2.2 y l) x b
  have h:=(Bd x).1 (n e i x b);unfold CN at a;rcases eu.1 a with a | a
  ·exact h.2.2.1.2 t a
  ·split at a
   ·rw[eg.1 a];exact h.2.1
   ·cases a
 intro t a;unfold tyPr at a;rcases eu.1 a with a | a
 ·obtain ⟨d,m,a⟩:=ez.1 a;have h:=hp.1.2 d m;unfold Cm at a;simp only[eu,eh,ez] at a;rcases a with ((⟨f,c,rfl⟩ | ⟨f,c,rfl⟩) | ⟨s,g,a⟩) | a
  ·exact (h.2.1.2 f c).2
  ·exact (h.2.2.1.2 f c).2
  ·exact k s (h.2.2.2.1.2 s g) t a
  ·split at a
   ·rcases eu.1 a with a | a
    ·exact k _ h.2.2.2.2.2.2.1 t a
    ·exact j _ h.2.2.2.2.2.2.2 t a
   ·cases a
 ·exact j _ hp.2 t a
theorem T2 {k:Nat} {a b:List D}:BO k (a++b)=(BO k a∧BO k b):=propext ⟨fun h=>⟨fun r hr=>h r (eI _ hr),fun r hr=>h r (eP _ hr)⟩,fun h r hr=>(eu.1 hr).elim (h.1 r) (h.2 r)⟩
def tyPR (l:List Dec) (k:Nat):List Ty:=(l.take k).flatMap Cm
def tyH (d:Dec) (j:Nat):List Ty:=d.formals.map (·.bound)++d.fields.map (·.type)++(d.sigs.take j).flatMap AP
theorem abJ (d:Dec) (j:Nat):(tyH d j).length≤(Cm d).length:=by
 have:=JY AP d.sigs j;unfold tyH Cm;simp only[dQ];omega
set_option maxRecDepth 100000 in
theorem T3 (p:Prg) (hp:smPr p) (hw:(tyPr p).length≤300000) (g d:Nat):ACalls E 56 [AZ p] [] g d (slTy (tyPr p)) []:=by
 have aG:=ZS hp;obtain ⟨⟨k1,k2⟩,k3⟩:=hp;have ar:∀ k,(tyPR p.decls k).length≤(tyPR p.decls p.decls.length).length:=fun k=>by
  unfold tyPR;rw[eo];exact JY Cm p.decls k
 have aM:(tyPR p.decls p.decls.length).length + (Bo p.main).length=(tyPr p).length:=by unfold tyPR tyPr; rw[eo,dQ]
 refine Ax 57 Tryz.call56 Tryz.func56 ?_;simp only[go_sem];refine Aa fun _ a9=>Ac 2 fun e _=>?_;simp only[go_sem];refine a9 (Aa fun _ ag=>Ac 1 fun _ _=>?_);simp only[go_sem];refine ag (Aa fun _ ah=>Aa fun _ ai=>Ac 4 fun _ _=>?_);simp only[go_sem];refine ai (Ai ?_);refine Bh 3 25 3 rfl fun Q aD=>?_;have H:Q≠e:=Ar aD 1 0 (by simp[go_sem]);refine Ay (fun m s=>∃ k a i,k≤p.decls.length∧m=p.decls.length - k∧a≠e ∧
   Le { env:=[(1,.ptr ⟨e,1,0⟩ 0),(9,slDe p.decls),(10,dN p.decls.length),(11,dN k),(3,.own ⟨a,i,0⟩ (tyPR p.decls k).length)],σ:=[(⟨e,1,0⟩,.box 30 (prC p)),(⟨a,i,0⟩,.arr 25 3 ((tyPR p.decls k).map AC))] } s) p.decls.length ?_ ?_
 ·refine ⟨0,Q,0,dX _,rfl,H,Ao ?_⟩;simp only[go_sem,show tyPR p.decls 0=[] from rfl,H,H.symm];all_goals first|trivial|omega
 ·rintro m s ⟨k,a,i,hk,rfl,y,u⟩;refine Az u ?_;clear u;refine Aa fun _ V=>?_;by_cases q:k < p.decls.length
  ·have aC:=getM (f:=Ce) q;have F:=k2 _ (dP q);have v:tyPR p.decls (k + 1)=tyPR p.decls k++Cm p.decls[k]:=Et Cm q;have aq:=ar (k + 1);refine Ac 1 fun g3 az=>?_;simp only[go_sem,q];refine V (Aa fun _ aj=>Al (Ae (aj (Aa fun _ W=>Ai (Aa fun _ ak=>?_)))));generalize p.decls[k]=D at *;generalize hP:tyPR p.decls k=P at *;have G:P.length + (Cm D).length≤300000:=by rw[v,dQ] at aq; omega
   have R:=abJ D;have aN:=F.2.2.2.1.1;have aJ:=R 0;have aK : (tyH D 0).length=D.formals.length + D.fields.length:=by simp[tyH]
   refine Ac 4 fun o X=>?_;simp only[go_sem,aC];refine ak (Aa fun _ al=>?_);have J:o≠a:=Ar X i 0 (by simp[go_sem,y.symm]);have c:o≠e:=Ar X 1 0 (by simp[go_sem]);refine AF 9 fun B Y _ _ l ao=>Av 3 l ?_;simp only[go_sem,J.symm,c.symm];refine AI l rfl rfl rfl (LG D.formals (by omega) _ _) (CoL.refl _) rfl ?_;refine Av 2 l ?_;simp only[go_sem,J.symm,c.symm];refine AI l rfl rfl rfl (MH D.fields (by omega) _ _) (CoL.refl _) rfl ?_;refine Av 1 l ?_;simp only[go_sem]
   refine AI l rfl rfl rfl (LF (D.formals.map (·.bound)) (D.fields.map (·.type)) (by simp only[ei]; omega) _ _) (CoL.refl _) rfl ?_;refine Ap 0 l ?_;simp only[go_sem];refine Af 0 l ?_;simp only[go_sem];refine AG l rfl rfl rfl rfl rfl es23 sz25 by25 ze25 rfl (by decide) ?_;simp only[go_sem,y.symm,J,DM,T2];first | refine ⟨⟨by omega,by omega⟩,?_⟩ | skip
   refine Ad 1 l ?_;simp only[go_sem];refine ao (al (Aa fun _ aa=>Aa fun _ ab=>?_));have K:B≠e:=Ar Y 1 0 (by simp[go_sem,c]);have z:B≠o:=Ar Y 5 0 (by simp[go_sem]);refine Ac 4 fun _ _=>?_;simp only[go_sem,c.symm,z];refine ab (Ai ?_);refine Ay (fun m s=>∃ j b i,j≤D.sigs.length∧m=D.sigs.length - j∧b≠e∧b≠o ∧
     Le { env:=[(1,.ptr ⟨e,1,0⟩ 0),(9,slDe p.decls),(10,dN p.decls.length),(11,dN k),(3,.own ⟨b,i,0⟩ (P++tyH D j).length),(5,.ptr ⟨o,5,0⟩ 0),(26,slSi D.sigs),(27,dN D.sigs.length),(28,dN j)],σ:=[(⟨e,1,0⟩,.box 30 (prC p)),(⟨o,5,0⟩,.box 48 (deC D)),(⟨b,i,0⟩,.arr 25 3 ((P++tyH D j).map AC))] } s) D.sigs.length ?_ ?_
   ·refine ⟨0,B,24,dX _,rfl,K,z,Ao ?_⟩;simp only[go_sem,tyH,fZ,fB,c,c.symm,K,K.symm,z,z.symm];all_goals first|trivial|omega
   ·rintro m s ⟨j,b,i,hj,rfl,r,n,u⟩;refine Az u ?_;clear u;refine Aa fun _ T=>?_;by_cases t:j < D.sigs.length
    ·have aE:=getM (f:=AH) t;have aQ:=F.2.2.2.1.2 _ (dP t);have a1:tyH D (j + 1)=tyH D j++AP D.sigs[j]:=by unfold tyH; rw[Et AP t,eE,eE,eE]
     have a8:=R (j + 1);rw[a1,dQ] at a8;refine Ac 1 fun g7 aA=>?_;simp only[go_sem,t];refine T (Aa fun _ ac=>Al (Ae (ac (Aa fun _ ad=>Ai (Aa fun _ ae=>?_)))));generalize D.sigs[j]=S at *;have aF:=Id S;refine Ac 4 fun g8 aB=>?_;simp only[go_sem,aE];refine ae ?_;have a0:g8≠b:=Ar aB i 0 (by simp[go_sem,r.symm,n.symm]);refine Am fun C Z _ _ A ap=>Af 2 A ?_;simp only[go_sem,a0.symm];refine AA A rfl rfl rfl (P0 S (by omega) (by omega) _ _) (CoL.refl _) ?_;refine AG A rfl rfl rfl rfl rfl es23 sz25 by25 ze25 rfl (by decide) ?_;simp only[go_sem,DM,r.symm,n.symm,a0]
     first | refine ⟨⟨by omega,by omega⟩,?_⟩ | skip
     refine Ad 1 A ?_;simp only[go_sem];refine ap (ad ?_);have L:C≠e:=Ar Z 1 0 (by simp[go_sem]);have M:C≠o:=Ar Z 5 0 (by simp[go_sem,c.symm]);refine Ac 2 fun _ _=>?_;simp only[go_sem];try simp (disch:=omega) only[Au]
     refine ⟨_,?_,j + 1,C,35,t,rfl,L,M,Ao ?_⟩
     ·omega
     simp only[go_sem,a1,← eE,c,c.symm,L,L.symm,M,M.symm];all_goals first|trivial|omega
    ·have:j=D.sigs.length:=by omega
     subst this;refine Ac 1 fun g7 aA=>?_;simp only[go_sem,t];refine T (Aa fun _ _=>Aj (Aq (aa (Aa fun _ U=>?_))));by_cases x:D.kind=3
     ·have N:Cm D=tyH D D.sigs.length++(AP D.sig++Bo D.body):=by unfold Cm tyH; rw[if_pos x,eo]
      have aF:=Id D.sig;rw[N] at G v;simp only[dQ] at G;refine Ac 3 fun a2 aw=>?_;simp only[go_sem,x,c.symm,n];refine U (Al (AF 9 fun O ax _ _ h am=>Av 3 h ?_));simp only[go_sem,c.symm,n];refine AI h rfl rfl rfl (P0 D.sig (by omega) (by omega) _ _) (CoL.refl _) rfl ?_;refine Av 2 h ?_;simp only[go_sem,c.symm,n];refine AI h rfl rfl rfl (P2 D.body (smEx.ok _ F.2.2.2.2.2.2.2) (by omega) _ _) (CoL.refl _) rfl ?_;refine Av 1 h ?_;simp only[go_sem];refine AI h rfl rfl rfl (LF (AP D.sig) (Bo D.body) (by omega) _ _) (CoL.refl _) rfl ?_;refine Ap 0 h ?_;simp only[go_sem]
      refine Af 0 h ?_;simp only[go_sem];refine AG h rfl rfl rfl rfl rfl es23 sz25 by25 ze25 rfl (by decide) ?_;simp only[go_sem,DM,T2,r.symm,n.symm];first | refine ⟨⟨by omega,by omega⟩,?_⟩ | skip
      refine Ad 1 h ?_;simp only[go_sem];refine am (W ?_);have I:O≠e:=Ar ax 1 0 (by simp[go_sem]);refine Ac 2 fun a3 ay=>?_;simp only[go_sem];try simp (disch:=omega) only[Au]
      refine ⟨_,?_,k + 1,O,49,q,rfl,I,Ao ?_⟩
      ·omega
      simp only[go_sem,v,← eE,c,I,I.symm];all_goals first|trivial|omega
     ·have N:Cm D=tyH D D.sigs.length:=by unfold Cm tyH; rw[if_neg x,eo,fe]
      rw[N] at G v;refine Ac 3 fun a2 aw=>?_;simp only[go_sem,x,c.symm,n];refine U (Aj (Ae (W (Ac 2 fun a3 ay=>?_))));simp only[go_sem];try simp (disch:=omega) only[Au]
      refine ⟨_,?_,k + 1,b,i,q,rfl,r,Ao ?_⟩
      ·omega
      simp only[go_sem,v,c,r,r.symm,n.symm];all_goals first|trivial|omega
  ·have:k=p.decls.length:=by omega
   subst this;refine Ac 1 fun g3 az=>?_;simp only[go_sem,q];refine V (Aa fun _ _=>Aj (Aq (ah (Aa fun _ af=>?_))));have au:tyPR p.decls p.decls.length++Bo p.main=tyPr p:=by unfold tyPR tyPr; rw[eo]
   have av:(tyPR p.decls p.decls.length).map AC++(Bo p.main).map AC=(tyPr p).map AC:=by rw[← eC,au]
   refine Am fun a4 _ _ _ w an=>Af 3 w ?_;simp only[go_sem,y];refine AA w rfl rfl rfl (P2 p.main (smEx.ok _ k3) (by omega) _ _) (CoL.refl _) ?_;refine AG w rfl rfl rfl rfl rfl es23 sz25 by25 ze25 rfl (by decide) ?_;simp only[go_sem,y.symm,DM];first | refine ⟨⟨by omega,by omega⟩,?_⟩ | skip
   refine Ti ⟨a4,55,0⟩ ?_;simp only[go_sem,av];refine AA w rfl rfl rfl (MI (tyPr p) (by omega) aG _ _) (CoL.refl _) ?_;refine Ad 1 w ?_;simp only[go_sem];refine an (af (Ah (Ag ?_)));simp only[go_sem];exact Co.refl _
set_option maxRecDepth 100000 in
theorem ZT (m:Nm) (g d:Nat):ACalls E 58 [.ptr m 0,.agg e0c] [] g d (.tup []) []:=by
 refine Ax 28 Tryz.call58 Tryz.func58 ?_;simp only[go_sem];refine Aa fun _ c=>Ac 2 fun _ _=>?_;simp only[go_sem];refine c (Aa fun _ e=>Am fun _ _ _ _ a l=>Af 1 a ?_);simp only[go_sem];refine AA a rfl rfl rfl (Ia e0 _ _) (.cons coE0 .nil) ?_;refine Ad 0 a ?_;simp only[go_sem];refine l (e (Ai ?_));refine Ho rfl rfl (by decide) ((AB e0).map AK) (fun _ _=>True) trivial (fun n I o=>H0 e0 okE0 n I o) (fun k p σ b _ i=>?_) (fun σ b=>?_)
 ·have q:k=0:=by simpa [Kq] using p
  subst q;refine Da (st':={ env:=[(7,AK e0)],σ:=[] }) ⟨CD ?_,fun n _ h=>by cases h⟩ ?_
  ·simp only[go_sem,Kq];try trivial
  refine Ac 2 fun _ _=>?_;simp only[go_sem,e0,tT];refine i _ (fun _ j=>?_);refine Ai (Aa fun _ f=>Ac 3 fun _ _=>?_);simp only[go_sem,show ((3:Int)=2)=False from eq_false (by decide)];refine f (Aj (Ae (j _ ?_)));try trivial
 ·have _hd:=b;refine Ag ?_;simp only[go_sem];exact Co.refl _
abbrev ksSR:KS:=.one .str
abbrev zC:List D:=[dI 0,dI 0,dI 0,dI 0,.val (.map none)]
abbrev nC (k:Int) (m:D):List D:=[dI k,dI 0,dI 0,dI 1,m]
set_option maxRecDepth 100000 in
theorem T4 (g d:Nat):ACalls E 27 [.agg p0c] [] g d (.agg (nC 1 (.fmap ksSR []))) []:=by
 have p:(((0:Nat):Int) < ((1:Nat):Int))=True:=eq_true (by decide);have q:(((1:Nat):Int) < ((1:Nat):Int))=False:=eq_false (by decide);have e:((0:Nat):Int)=0:=rfl;have u:((1:Int) > 1)=False:=eq_false (by decide);have t:((0:Int) > 0)=False:=eq_false (by decide);have r:((1:Int)=3)=False:=eq_false (by decide);have h:(0:Int) + 1=1:=rfl;have l:IntKind.i64.wrap 1=1:=by decide
 refine Ax 53 Tryz.call27 Tryz.func27 ?_;simp only[go_sem];refine Aa fun _ x=>Ac 2 fun b _=>?_;simp only[go_sem];refine x (Aa fun _ H=>Ac 4 fun a _=>?_);simp only[go_sem];refine H (Aa fun _ K=>Aa fun _ L=>Am fun _ _ _ _ j Q=>Af 1 j ?_);simp only[go_sem];refine Ak j (ZR _ _) ?_;refine Ad 2 j ?_;simp only[go_sem];refine Q (L (Ai ?_))
 refine Ay (fun m s=>∃ k,k≤1∧m=1 - k∧Le { env:=[(1,.ptr ⟨b,1,0⟩ 0),(2,.ptr ⟨b,2,0⟩ 0),(3,.ptr ⟨a,3,0⟩ 0),(11,slTy [tT]),(12,dN 1),(13,dN k)],σ:=[(⟨b,1,0⟩,.box 30 p0c),(⟨b,2,0⟩,.box 61 zC),(⟨a,3,0⟩,.box 61 (nC 0 (.mref ⟨a,8,0⟩))),(⟨a,8,0⟩,.map ksSR [])] } s) 1 ?_ ?_
 ·refine ⟨0,dX _,rfl,Ao ?_⟩;simp only[go_sem];first | exact rfl | exact ⟨rfl,rfl⟩ | trivial
 ·rintro m s ⟨k,U,rfl,c⟩;refine Az c ?_;clear c;refine Aa fun _ o=>?_;by_cases V:k < 1
  ·obtain rfl:k=0:=by omega
   refine Ac 1 fun v S=>?_;simp only[go_sem,p];refine o (Aa fun _ M=>Al (Ae (M (Aa fun _ N=>Ai (Aa fun _ O=>Ac 4 fun _ _=>?_)))));simp only[go_sem];refine O (AF 6 fun _ _ _ _ f R=>Av 3 f ?_);simp only[go_sem];refine Aw f (ZQ _ _) ?_;refine Ap 2 f ?_;simp only[go_sem,u];refine Ad 1 f ?_;simp only[go_sem];refine R (N (Ac 2 fun _ _=>?_));simp only[go_sem,h,l,e];try simp (disch:=omega) only[Au,Ba,dZ,ed]
   refine ⟨_,?_,1,ec _,rfl,Ao ?_⟩
   ·omega
   simp only[go_sem];first | exact rfl | exact ⟨rfl,rfl⟩ | trivial
  ·have:k=1:=by omega
   subst this;refine Ac 1 fun v S=>?_;simp only[go_sem,q];refine o (Aa fun _ _=>Aj (Aq (K (Aa fun _ y=>Aa fun _ z=>Ac 4 fun _ _=>?_))));simp only[go_sem];refine z (Ai ?_);refine Ay (fun m s=>∃ k,k≤1∧m=1 - k∧Le { env:=[(1,.ptr ⟨b,1,0⟩ 0),(2,.ptr ⟨b,2,0⟩ 0),(3,.ptr ⟨a,3,0⟩ 0),(25,.sl true [.agg dTc]),(26,dN 1),(27,dN k)],σ:=[(⟨b,1,0⟩,.box 30 p0c),(⟨b,2,0⟩,.box 61 zC),(⟨a,3,0⟩,.box 61 (nC k (.mref ⟨a,8,0⟩))),(⟨a,8,0⟩,.map ksSR [])] } s) 1 ?_ ?_
   ·refine ⟨0,dX _,rfl,Ao ?_⟩;simp only[go_sem];first | exact rfl | exact ⟨rfl,rfl⟩ | trivial
   ·rintro m s ⟨k,U,rfl,c⟩;refine Az c ?_;clear c;refine Aa fun _ n=>?_;by_cases V:k < 1
    ·obtain rfl:k=0:=by omega
     refine Ac 1 fun w T=>?_;simp only[go_sem,p];refine n (Aa fun _ A=>Al (Ae (A (Aa fun _ B=>Ai (Aa fun _ C=>Ac 4 fun _ _=>?_)))));simp only[go_sem];refine C (Aa fun _ D=>Aa fun _ F=>Ac 3 fun _ _=>?_);simp only[go_sem,r];refine F (Aj (Ae (D (Aa fun _ G=>Ac 5 fun _ _=>?_))));simp only[go_sem,h,l,e];try simp (disch:=omega) only[Au,Ba,dZ,ed]
     refine G (Ac 8 fun _ _=>?_);simp only[go_sem,t,e];refine B (Ac 2 fun _ _=>?_);simp only[go_sem,h,l,e];try simp (disch:=omega) only[Au,Ba,dZ,ed]
     refine ⟨_,?_,1,ec _,rfl,Ao ?_⟩
     ·omega
     simp only[go_sem];first | exact rfl | exact ⟨rfl,rfl⟩ | trivial
    ·have:k=1:=by omega
     subst this;refine Ac 1 fun w T=>?_;simp only[go_sem,q];refine n (Aa fun _ _=>Aj (Aq (y (Aa fun _ I=>Am fun _ _ _ _ i P=>Af 2 i ?_))));simp only[go_sem];refine Ak i (ZT ⟨a,3,0⟩ _ _) ?_;refine Ad 0 i ?_;simp only[go_sem];refine P (I (Aa fun _ J=>Ac 2 fun _ _=>?_));simp only[go_sem];refine J (Ah ?_);refine SX ⟨a,8,0⟩ ?_;simp only[go_sem];refine Ag ?_;simp only[go_sem];exact Co.refl _
theorem Sk (g d:Nat):ACalls E 99 [nilS] [] g d (.own ⟨g,d,1⟩ 0) [(⟨g,d,1⟩,.arr 46 7 [])]:=by
 refine Ax 8 Tryz.call99 Tryz.func99 ?_;simp only[go_sem];refine Aa fun _ b=>Ac 1 fun _ _=>?_;simp only[go_sem];refine b (Aa fun _ _=>Aa fun _ c=>Ac 2 fun _ _=>?_);simp only[go_sem];refine c (Al (Aa fun _ e=>Ac 1 fun _ _=>?_));simp only[go_sem];refine e (Ah ?_);refine Vq 2 46 7 rfl fun a _=>?_;refine DK [⟨a,0,0⟩] rfl ?_;simp only[go_sem];exact Co.refl _
set_option maxRecDepth 100000 in
theorem N4 (b:Bool) (s:Str) (x:D) (g d:Nat):ACalls E 98 [dB b,encS s,nilS,x] [] g d (.tup []) []:=by
 refine Ax 21 Tryz.call98 Tryz.func98 ?_;simp only[go_sem];refine Aa fun _ c=>Ac 3 fun _ _=>?_;simp only[go_sem];refine c (Ai ?_);refine Ay (fun m s=>m=0∧Le { env:=[(9,dN 0),(10,dN 0)],σ:=[] } s) 0 ?_ ?_
 ·refine ⟨rfl,Ao ?_⟩;simp only[go_sem];first | exact rfl | exact ⟨rfl,rfl⟩ | trivial
 ·rintro m s ⟨rfl,a⟩;refine Az a ?_;clear a;refine Aa fun _ e=>Ac 1 fun _ _=>?_;simp only[go_sem,show (((0:Nat):Int) < ((0:Nat):Int))=False from eq_false (by decide)];refine e (Aa fun _ _=>Aj (Aq (Ag ?_)));simp only[go_sem];exact Co.refl _
theorem abe (x:UInt8) (r b c:List UInt8):(⟨(((x :: r).append b).append c).toArray⟩:ByteArray)[Int.toNat 0]?=some x:=by
 have h:Int.toNat 0 < (⟨(((x :: r).append b).append c).toArray⟩:ByteArray).size:=by simp[ByteArray.size]
 rw[getElem?_pos (⟨(((x :: r).append b).append c).toArray⟩:ByteArray) (Int.toNat 0) h]
 rfl
set_option maxRecDepth 100000 in
theorem abf (g d:Nat):ACalls E 157 [.val (.int .u64 0)] [] g d (dI 0) []:=by
 have a:((4294967296:Int)≤0)=False:=eq_false (by decide);have b:((65536:Int)≤0)=False:=eq_false (by decide);have c:((256:Int)≤0)=False:=eq_false (by decide);refine Ax 25 Tryz.call157 Tryz.func157 ?_;simp only[go_sem];refine Aa fun _ e=>Ac 1 fun _ _=>?_;simp only[go_sem];refine e (Aa fun _ f=>Aa fun _ h=>Ac 2 fun _ _=>?_);simp only[go_sem,a];refine h (Aj (Ae (f (Aa fun _ i=>Aa fun _ j=>Ac 2 fun _ _=>?_))));simp only[go_sem,b];refine j (Aj (Ae (i (Aa fun _ k=>Aa fun _ l=>Ac 2 fun _ _=>?_))));simp only[go_sem,c];refine l (Aj (Ae (k (Aa fun _ m=>Ac 7 fun _ _=>?_))));simp only[go_sem]
 try simp (disch:=omega) only[Ba]
 rw[abe];try simp only[go_sem,show ((UInt8.toNat 0:Nat):Int)=0 from rfl]
 try simp (disch:=omega) only[Au]
 refine m (Ah (Ag ?_));simp only[go_sem];exact Co.of_eq rfl
open Classical in
noncomputable def addN (l:List Str) (n:Str):List Str:=if n∈l then l else l++[n]
def nsE (l:List Str):List (Value × D):=l.map fun n=>(.string n,.val (.bool true))
open Classical in
theorem VK:∀ (l:List Str) (n:Str),mput (nsE l) (.string n) (.val (.bool true))=nsE (addN l n)
 | [],n=>by simp[nsE,mput,addN]
 | x :: r,n=>by
  have ih:=VK r n;unfold addN at ih ⊢;simp only[nsE,eM,mput,f8] at ih ⊢;by_cases h:x=n
  ·simp[h]
  ·rw[if_neg (by simpa using h),ih];by_cases hm:n∈r <;> simp[hm,Ne.symm h]
theorem abg (l:List Str):(nsE l).length=l.length:=by simp[nsE]
open Classical in
theorem ZU (l:List Str) (s x:Str):x∈addN l s↔x=s∨x∈l:=by
 unfold addN;split
 ·rename_i h;constructor
  ·exact .inr
  ·rintro (rfl | a)
   ·exact h
   ·exact a
 ·rw[eu,eg,or_comm]
open Classical in
theorem WN (l:List Str) (s:Str) (h:l.Nodup):(addN l s).Nodup:=by
 unfold addN;split
 ·exact h
 ·rename_i c;rw[gc];refine ⟨h,by simp,fun _ a _ b=>?_⟩;rw[eg.1 b];intro e;exact c (e ▸ a)
noncomputable def nmF (ns:List Str) (x:Ex):List Str:=if x.kind=2 then addN ns x.name else ns
noncomputable def nmR (ns:List Str) (x:Ex):List Str:=if x.kind=2 then putS ns x.name else ns
def tgF (t:Nat) (x:Ex):Nat:=if x.kind=2 then max t x.targs.length else t
theorem VL:∀ (L:List Ex) (l:List Str) (x:Str),x∈L.foldl nmF l↔(∃ e∈L,e.kind=2∧x=e.name)∨x∈l
 | [],l,x=>by simp
 | s :: L,l,x=>by
  rw[fz,VL L (nmF l s) x];unfold nmF;split
  ·rename_i h2;rw[ZU];constructor
   ·rintro (⟨t,ht,h⟩ | h | h)
    ·exact .inl ⟨t,ea _ ht,h⟩
    ·exact .inl ⟨s,dY,h2,h⟩
    ·exact .inr h
   ·rintro (⟨t,ht,h3,h⟩ | h)
    ·rcases eq.1 ht with rfl | ht
     ·exact .inr (.inl h)
     ·exact .inl ⟨t,ht,h3,h⟩
    ·exact .inr (.inr h)
  ·rename_i h2;constructor
   ·rintro (⟨t,ht,h⟩ | h)
    ·exact .inl ⟨t,ea _ ht,h⟩
    ·exact .inr h
   ·rintro (⟨t,ht,h3,h⟩ | h)
    ·rcases eq.1 ht with rfl | ht
     ·exact absurd h3 h2
     ·exact .inl ⟨t,ht,h3,h⟩
    ·exact .inr h
theorem Iu:∀ (L:List Ex) (l:List Str) (x:Str),x∈L.foldl nmR l↔(∃ e∈L,e.kind=2∧x=e.name)∨x∈l
 | [],l,x=>by simp
 | s :: L,l,x=>by
  rw[fz,Iu L (nmR l s) x];unfold nmR;split
  ·rename_i h2;rw[IU];constructor
   ·rintro (⟨t,ht,h⟩ | h | h)
    ·exact .inl ⟨t,ea _ ht,h⟩
    ·exact .inl ⟨s,dY,h2,h⟩
    ·exact .inr h
   ·rintro (⟨t,ht,h3,h⟩ | h)
    ·rcases eq.1 ht with rfl | ht
     ·exact .inr (.inl h)
     ·exact .inl ⟨t,ht,h3,h⟩
    ·exact .inr (.inr h)
  ·rename_i h2;constructor
   ·rintro (⟨t,ht,h⟩ | h)
    ·exact .inl ⟨t,ea _ ht,h⟩
    ·exact .inr h
   ·rintro (⟨t,ht,h3,h⟩ | h)
    ·rcases eq.1 ht with rfl | ht
     ·exact absurd h3 h2
     ·exact .inl ⟨t,ht,h3,h⟩
    ·exact .inr h
theorem RG:∀ (L:List Ex) (l:List Str),l.Nodup→(L.foldl nmF l).Nodup
 | [],_,h=>h
 | s :: L,l,h=>RG L _ (by unfold nmF; split; exact WN _ _ h; exact h)
theorem RH:∀ (L:List Ex) (l:List Str),l.Nodup→(L.foldl nmR l).Nodup
 | [],_,h=>h
 | s :: L,l,h=>RH L _ (by unfold nmR; split; exact KZ _ _ h; exact h)
theorem EQ:∀ (L:List Ex) (l:List Str),(L.foldl nmR l).length≤l.length + L.length
 | [],l=>by simp
 | s :: L,l=>by
  have h1:=EQ L (nmR l s);have h2:(nmR l s).length≤l.length + 1:=by
   unfold nmR;split
   ·exact Tq _ _
   ·omega
  simp only[fz,eB];omega
theorem T5:∀ (L:List Ex) (n b:Nat),n≤b→(∀ e∈L,e.targs.length≤b)→L.foldl tgF n≤b
 | [],n,b,h,_=>h
 | s :: L,n,b,h,hl=>by
  refine T5 L _ b ?_ fun e he=>hl e (ea _ he);unfold tgF;split
  ·exact Nat.max_le.2 ⟨h,hl s dY⟩
  ·exact h
theorem Nh:∀ (L:List Ex) (n:Nat),L.foldl tgF n=max n (L.foldl tgF 0)
 | [],n=>by simp
 | s :: L,n=>by
  rw[fz,fz,Nh L (tgF n s),Nh L (tgF 0 s)];unfold tgF;split <;> omega
theorem T6 (A B:List Ex):(A++B).foldl tgF 0=(B++A).foldl tgF 0:=by
 rw[eQ,eQ,Nh B (A.foldl tgF 0),Nh A (B.foldl tgF 0)];omega
theorem VM (A B:List Ex) (h:∀ e,e∈A↔e∈B):(A.foldl nmF []).length=(B.foldl nmR []).length:=by
 refine List.Perm.length_eq ?_;rw[List.perm_ext_iff_of_nodup (RG _ _ .nil) (RH _ _ .nil)];intro x;rw[VL,Iu];simp only[h]
theorem mmN (a b:Nat):(if a < b then (b:Int) else (a:Int))=((max a b:Nat):Int):=by
 split <;> omega
abbrev cC (dc fo tg dp:Nat) (q:Nat):List D:=[dN dc,dN fo,dN tg,dN dp,.mref ⟨q,8,0⟩]
abbrev cS (dc fo tg dp:Nat) (ns:List Str) (q:Nat):Sto:=[(⟨q,3,0⟩,.box 61 (cC dc fo tg dp q)),(⟨q,8,0⟩,.map ksSR (nsE ns))]
set_option maxRecDepth 100000 in
theorem N5 (q dc fo tg dp:Nat) (ns:List Str) (e:Ex) (he:okEx e) (g d:Nat) :
  ACalls E 58 [.ptr ⟨q,3,0⟩ 0,AK e] (cS dc fo tg dp ns q) g d (.tup []) (cS dc fo ((AB e).foldl tgF tg) dp ((AB e).foldl nmF ns) q):=by
 refine Ax 28 Tryz.call58 Tryz.func58 ?_;simp only[go_sem];refine Aa fun _ x=>Ac 2 fun c F=>?_;simp only[go_sem];refine x (Aa fun _ y=>?_);have a:c≠q:=Ar F 3 0 (by simp[go_sem]);refine Am fun _ _ _ _ l A=>Af 1 l ?_;simp only[go_sem,a.symm];refine AA l rfl rfl rfl (Ia e _ _) (.cons (Co.of_eq (by rw[El]; rfl)) .nil) ?_;refine Ad 0 l ?_;simp only[go_sem];refine A (y (Ai ?_))
 refine Ho rfl rfl (by decide) ((AB e).map AK) (fun k σ=>∀ n o,Ab.get ((⟨c,2,0⟩,.box 150 [.ptr ⟨q,3,0⟩ 0]) :: cS dc fo (((AB e).take k).foldl tgF tg) dp (((AB e).take k).foldl nmF ns) q) n=some o→Ab.get σ n=some o) (DE ?_) (fun n I D=>H0 e he n I D) (fun k H σ h _ s=>?_) (fun σ h=>?_)
 ·simp only[go_sem,cC,a,a.symm];try trivial
 ·have t : k < (AB e).length:=by simpa using H
  have J:=BP tgF tg t;have K:=BP nmF ns t;refine Da (st':={ env:=[(7,AK (AB e)[k]),(2,.ptr ⟨c,2,0⟩ 0)],σ:=(⟨c,2,0⟩,.box 150 [.ptr ⟨q,3,0⟩ 0]) :: cS dc fo (((AB e).take k).foldl tgF tg) dp (((AB e).take k).foldl nmF ns) q }) ⟨CD ?_,h⟩ ?_
  ·simp only[go_sem,fY];try trivial
  generalize (AB e)[k]=X at *;generalize ((AB e).take k).foldl tgF tg=T at *;generalize ((AB e).take k).foldl nmF ns=S at *;rw[J,K] at s;refine Ac 2 fun _ _=>?_;simp only[go_sem,cS,cC];refine s _ (fun _ f=>?_);refine Ai (Aa fun _ r=>?_);by_cases b:X.kind=2
  ·have i:tgF T X=max T X.targs.length:=by unfold tgF; rw[if_pos b]
   have j:nmF S X=addN S X.name:=by unfold nmF; rw[if_pos b]
   rw[i,j] at f;refine Ac 3 fun w G=>?_;simp only[go_sem,b];refine r (Al (Aa fun _ z=>AF 6 fun _ _ _ _ u B=>Ap 6 u ?_));simp only[go_sem,a,a.symm];refine Ad 1 u ?_;simp only[go_sem,VK,a];refine B (z (AF 11 fun _ _ _ _ v C=>Ap 11 v ?_));simp only[go_sem,mmN,a,a.symm];refine Ad 1 v ?_;simp only[go_sem,a];refine C (f _ ?_);refine DE ?_;simp only[go_sem,cC,a,a.symm];try trivial
  ·have i:tgF T X=T:=by unfold tgF; rw[if_neg b]
   have j:nmF S X=S:=by unfold nmF; rw[if_neg b]
   rw[i,j] at f;refine Ac 3 fun w G=>?_;simp only[go_sem,b];refine r (Aj (Ae (f _ ?_)));refine DE ?_;simp only[go_sem,cC,a,a.symm];try trivial
 ·rw[ei,eo] at h;refine HC rfl (fun p m=>h p.1 p.2 ?_) ?_
  ·rcases eq.1 m with rfl | m
   ·simp only[go_sem,cC,a]
   ·rw[eg.1 m];simp only[go_sem,cC,a]
  simp only[go_sem];exact Co.refl _
theorem ifN (a b:Nat):(if a < b then b else a)=max a b:=by split <;> omega
set_option maxRecDepth 100000 in
theorem T7:∀ t:Ty,okTy t→(AO t).length≤1000000→∀ g d,ACalls E 57 [AC t] [] g d (dN (Br t)) []:=by
 intro t;induction t using Ty.ind with
 | h t ih =>
 intro D i g d;have C:=(DJ t).1 D;have z:=KY t;rw[D7,Fe] at z;refine Ax 20 Tryz.call57 Tryz.func57 ?_;simp only[go_sem];refine Aa fun _ l=>Ac 2 fun _ _=>?_;simp only[go_sem];refine l (Aa fun _ p=>Ac 1 fun _ _=>?_);simp only[go_sem];refine p (Aa fun _ q=>Aa fun _ r=>Ac 4 fun _ _=>?_);simp only[go_sem];refine r (Ai ?_);refine Ay (fun m s=>∃ k n,k≤t.args.length∧m=t.args.length - k∧dmax (t.args.drop k) n=dmax t.args 0∧Le { env:=[(7,slTy t.args),(8,dN t.args.length),(3,dN n),(9,dN k)],σ:=[] } s) t.args.length ?_ ?_
 ·refine ⟨0,0,dX _,rfl,rfl,Ao ?_⟩;simp only[go_sem];all_goals first|trivial|omega
 ·rintro m s ⟨k,n,G,rfl,b,f⟩;refine Az f ?_;clear f;refine Aa fun _ e=>?_;by_cases a:k < t.args.length
  ·have B:=ef (DA (dP a)) (show wN t.args≤1000000 by rw[DW] at i; simp at i; unfold wN; omega);have F:=JZ (t.args.drop k) n;rw[Jl a,ifN] at b;refine Ac 1 fun j A=>?_;simp only[go_sem,a];refine e (Aa fun _ u=>Al (Ae (u (Aa fun _ v=>Ai (Aa fun _ w=>Ac 4 fun _ _=>?_)))));simp only[go_sem,getM a];refine w (Am fun _ _ _ _ c x=>Af 2 c ?_);simp only[go_sem];refine Ak c (ih _ (dP a) (C.2.2 _ (dP a)) B _ _) ?_;refine Ad 2 c ?_;simp only[go_sem];refine x (v (Ac 2 fun _ _=>?_));simp only[go_sem,mmN];try simp (disch:=omega) only[Au]
   refine ⟨_,?_,k + 1,_,a,rfl,b,Ao ?_⟩
   ·omega
   simp only[go_sem];all_goals first|trivial|omega
  ·have:k=t.args.length:=by omega
   subst this;rw[eY] at b;have y:Br t=1 + n:=by rw[D7,Fe,← b]; rfl
   have H:n=dmax t.args 0:=b;refine Ac 1 fun j A=>?_;simp only[go_sem,a];refine e (Aa fun _ _=>Aj (Aq (q (Aa fun _ o=>Ac 3 fun _ _=>?_))));simp only[go_sem];try simp (disch:=omega) only[Au]
   refine o (Ah (Ag ?_));simp only[go_sem];exact Co.of_eq (by rw[y]; simp[Int.add_comm])
def exD (d:Dec):List Ex:=if d.kind=3 then AB d.body else []
def exBR (l:List Dec):List Ex:=l.flatMap exD
def dcF (n:Nat) (d:Dec):Nat:=if d.kind=3 then n else n + 1
def foF (n:Nat) (d:Dec):Nat:=if d.kind=3 then n else max n d.formals.length
theorem GT:∀ (l:List Dec) (n:Nat),l.foldl dcF n≤n + l.length
 | [],n=>ec _
 | d :: l,n=>by
  have h1:=GT l (dcF n d);have h2:dcF n d≤n + 1:=by unfold dcF; split <;> omega
  simp only[fz,eB];omega
theorem T8:∀ (l:List Dec) (n b:Nat),n≤b→(∀ d∈l,d.formals.length≤b)→l.foldl foF n≤b
 | [],n,b,h,_=>h
 | s :: L,n,b,h,hl=>by
  refine T8 L _ b ?_ fun e he=>hl e (ea _ he);unfold foF;split
  ·exact h
  ·exact Nat.max_le.2 ⟨h,hl s dY⟩
theorem T9 (l:List Dec) (k:Nat) (h:k < l.length):exBR (l.take (k + 1))=exBR (l.take k)++exD l[k]:=Et exD h
abbrev cV (dc fo tg dp:Nat) (ns:List Str):D:=.agg [dN dc,dN fo,dN tg,dN dp,.fmap ksSR (nsE ns)]
noncomputable def cntD (p:Prg):D:=cV (p.decls.foldl dcF 0) (p.decls.foldl foF 0) ((exBR p.decls++AB p.main).foldl tgF 0) (dmax (tyPr p) 1) ((exBR p.decls++AB p.main).foldl nmF [])
abbrev zCc:List D:=[dI 0,dI 0,dI 0,dI 0,.val (.map none)]
set_option maxRecDepth 100000 in
theorem MJ (p:Prg) (hp:smPr p) (hw:wN (Bx p)≤1000000) (hw2:(tyPr p).length≤300000) (g d:Nat):ACalls E 27 [AZ p] [] g d (cntD p) []:=by
 have ag:=T0 hp;have ah:=hp;obtain ⟨⟨k1,k2⟩,k3⟩:=hp;refine Ax 53 Tryz.call27 Tryz.func27 ?_;simp only[go_sem];refine Aa fun _ M=>Ac 2 fun c _=>?_;simp only[go_sem];refine M (Aa fun _ U=>Ac 4 fun b _=>?_);simp only[go_sem];refine U (Aa fun _ Y=>Aa fun _ Z=>Am fun _ _ _ _ z a5=>Af 1 z ?_);simp only[go_sem];refine Ak z (T3 p ah hw2 _ _) ?_;refine Ad 2 z ?_;simp only[go_sem];refine a5 (Z (Ai ?_))
 refine Ay (fun m s=>∃ k n,k≤(tyPr p).length∧m=(tyPr p).length - k∧dmax ((tyPr p).drop k) n=dmax (tyPr p) 1∧Le { env:=[(1,.ptr ⟨c,1,0⟩ 0),(2,.ptr ⟨c,2,0⟩ 0),(3,.ptr ⟨b,3,0⟩ 0),(11,slTy (tyPr p)),(12,dN (tyPr p).length),(13,dN k)],σ:=[(⟨c,1,0⟩,.box 30 (prC p)),(⟨c,2,0⟩,.box 61 zCc),(⟨b,3,0⟩,.box 61 (cC 0 0 0 n b)),(⟨b,8,0⟩,.map ksSR (nsE []))] } s) (tyPr p).length ?_ ?_
 ·refine ⟨0,1,dX _,rfl,rfl,Ao ?_⟩;simp only[go_sem,nsE];all_goals first|trivial|omega
 ·rintro m s ⟨k,n,G,rfl,j,l⟩;refine Az l ?_;clear l;refine Aa fun _ F=>?_;by_cases a:k < (tyPr p).length
  ·have H:=dP a;have ae:(AO (tyPr p)[k]).length≤1000000:=ef (DA (OK p _ H)) (by omega);rw[Jl a,ifN] at j;refine Ac 1 fun K ab=>?_;simp only[go_sem,a];refine F (Aa fun _ a0=>Al (Ae (a0 (Aa fun _ a1=>Ai (Aa fun _ a2=>Ac 4 fun _ _=>?_)))));simp only[go_sem,getM a];refine a2 (AF 6 fun _ _ _ _ o a6=>Av 3 o ?_);simp only[go_sem];refine Aw o (T7 _ (ag _ H) ae _ _) ?_;refine Ap 2 o ?_;simp only[go_sem,mmN];refine Ad 1 o ?_;simp only[go_sem];refine a6 (a1 (Ac 2 fun _ _=>?_));simp only[go_sem];try simp (disch:=omega) only[Au]
   refine ⟨_,?_,k + 1,_,a,rfl,j,Ao ?_⟩
   ·omega
   simp only[go_sem];all_goals first|trivial|omega
  ·have:k=(tyPr p).length:=by omega
   subst this;rw[eY] at j;have hn:n=dmax (tyPr p) 1:=j;clear j;refine Ac 1 fun K ab=>?_;simp only[go_sem,a];refine F (Aa fun _ _=>Aj (Aq (Y (Aa fun _ N=>Aa fun _ O=>Ac 4 fun _ _=>?_))));simp only[go_sem];refine O (Ai ?_)
   refine Ay (fun m s=>∃ k,k≤p.decls.length∧m=p.decls.length - k∧Le { env:=[(1,.ptr ⟨c,1,0⟩ 0),(2,.ptr ⟨c,2,0⟩ 0),(3,.ptr ⟨b,3,0⟩ 0),(25,slDe p.decls),(26,dN p.decls.length),(27,dN k)],σ:=[(⟨c,1,0⟩,.box 30 (prC p)),(⟨c,2,0⟩,.box 61 zCc),(⟨b,3,0⟩,.box 61 (cC ((p.decls.take k).foldl dcF 0) ((p.decls.take k).foldl foF 0) ((exBR (p.decls.take k)).foldl tgF 0) n b)),(⟨b,8,0⟩,.map ksSR (nsE ((exBR (p.decls.take k)).foldl nmF [])))] } s) p.decls.length ?_ ?_
   ·refine ⟨0,dX _,rfl,Ao ?_⟩;simp only[go_sem,nsE,show exBR []=[] from rfl];all_goals first|trivial|omega
   ·rintro m s ⟨k,G,rfl,l⟩;refine Az l ?_;clear l;refine Aa fun _ A=>?_;by_cases a:k < p.decls.length
    ·have ad:=getM (f:=Ce) a;have a7:=k2 _ (dP a);have q:=BP dcF 0 a;have r:=BP foF 0 a;have t:=T9 p.decls k a;have a8:=GT (p.decls.take k) 0;rw[eG G] at a8;refine Ac 1 fun L ac=>?_;simp only[go_sem,a];refine A (Aa fun _ P=>Al (Ae (P (Aa fun _ B=>Ai (Aa fun _ Q=>?_)))));generalize p.decls[k]=D at *;generalize (p.decls.take k).foldl dcF 0=h at *;generalize (p.decls.take k).foldl foF 0=i at *;generalize exBR (p.decls.take k)=X at *;refine Ac 4 fun _ _=>?_;simp only[go_sem,ad];refine Q (Aa fun _ R=>Aa fun _ C=>?_);by_cases e:D.kind=3
     ·have u:dcF h D=h:=by unfold dcF; rw[if_pos e]
      have v:foF i D=i:=by unfold foF; rw[if_pos e]
      have w:exD D=AB D.body:=by unfold exD; rw[if_pos e]
      rw[u] at q;rw[v] at r;rw[w] at t;refine Ac 3 fun I a9=>?_;simp only[go_sem,e];refine C (Al (Aa fun _ S=>Am fun _ _ _ _ x a3=>Af 2 x ?_));simp only[go_sem];refine Dx x rfl rfl rfl (N5 b h i (X.foldl tgF 0) n (X.foldl nmF []) D.body (smEx.ok _ a7.2.2.2.2.2.2.2) _ _) (CoL.refl _) (by simp[go_sem]) ?_;refine Ad 0 x ?_;simp only[go_sem];refine a3 (S (Aq (B (Ac 2 fun J aa=>?_))));simp only[go_sem];try simp (disch:=omega) only[Au]
      refine ⟨_,?_,k + 1,a,rfl,Ao ?_⟩
      ·omega
      simp only[go_sem,q,r,t,eQ];all_goals first|trivial|omega
     ·have u:dcF h D=h + 1:=by unfold dcF; rw[if_neg e]
      have v:foF i D=max i D.formals.length:=by unfold foF; rw[if_neg e]
      have w:exD D=[]:=by unfold exD; rw[if_neg e]
      rw[u] at q;rw[v] at r;rw[w,fe] at t;refine Ac 3 fun I a9=>?_;simp only[go_sem,e];refine C (Aj (Ae (R (Aa fun _ T=>Ac 5 fun _ _=>?_))));simp only[go_sem];try simp (disch:=omega) only[Au]
      refine T (Ac 8 fun _ _=>?_);simp only[go_sem,mmN];refine B (Ac 2 fun J aa=>?_);simp only[go_sem];try simp (disch:=omega) only[Au]
      refine ⟨_,?_,k + 1,a,rfl,Ao ?_⟩
      ·omega
      simp only[go_sem,q,r,t];all_goals first|trivial|omega
    ·have:k=p.decls.length:=by omega
     subst this;refine Ac 1 fun L ac=>?_;simp only[go_sem,a];refine A (Aa fun _ _=>Aj (Aq (N (Aa fun _ V=>Am fun _ _ _ _ y a4=>Af 2 y ?_))));simp only[go_sem];refine Dx y rfl rfl rfl (N5 b (p.decls.foldl dcF 0) (p.decls.foldl foF 0) ((exBR p.decls).foldl tgF 0) n ((exBR p.decls).foldl nmF []) p.main (smEx.ok _ k3) _ _) (CoL.refl _) (by simp[go_sem]) ?_;refine Ad 0 y ?_;simp only[go_sem];refine a4 (V (Aa fun _ W=>Ac 2 fun _ _=>?_));simp only[go_sem];refine W (Ah ?_);refine SX ⟨b,8,0⟩ ?_;simp only[go_sem];refine Ag ?_;simp only[go_sem]
     exact Co.of_eq (by unfold cntD cV; rw[eQ,eQ,hn])
end Go.Proofs.T
