/- A part of the proof: ZAZ. -/
import Derived.Test.YtnkpcgpmgkaakaaGreatZAY
namespace Go.Proofs.T
open Go Go.Ab Go.RowKit
noncomputable def ofV2 (p:Prg) (nm tg h:Nat):Int :=
 Ec (typS ((p.decls.foldl dcF 0:Nat):Int) (p.decls.foldl foF 0) h) (mulS (mulS (typS ((p.decls.foldl dcF 0:Nat):Int) (p.decls.foldl foF 0) h) nm) (powS (Ec (typS ((p.decls.foldl dcF 0:Nat):Int) (p.decls.foldl foF 0) h) 1) tg))
theorem inN {n:Nat} (h:n≤1000000):inR (n:Int):=by unfold inR; omega
theorem abK (d:Dec):(exD d).length≤(AB d.body).length:=by unfold exD; split <;> simp
theorem Jx (e:Ex):(AB e).length≤wN (CA e):=by
 refine ef ?_ (FX _);unfold CA;generalize AB e=l;induction l with
 | nil=>simp
 | cons x r ih =>
  rw[eO,dQ,eB,eB];omega
theorem abh (l:List Dec):(exBR l).length≤(l.map (fun d=>wN (Bl d))).sum:=by
 induction l with
 | nil=>simp[exBR]
 | cons d l ih =>
  have a:=abK d;have b:=Jx d.body;have c:wN (CA d.body)≤wN (Bl d):=by
   unfold Bl;rw[AW];omega
  have e:exBR (d :: l)=exD d++exBR l:=rfl;rw[e,dQ,eM,fV];omega
theorem QJ (p:Prg):(AB p.main++exBR p.decls).length≤wN (Bx p):=by
 have a:=abh p.decls;have b:=Jx p.main;unfold Bx;rw[AW,Ej,dQ];omega
theorem abL (l:List Dec) (k:Nat):(exBR (l.take k)).length≤(exBR l).length:=JY exD l k
theorem Yo {p:Prg} (hp:smPr p):∀ x∈AB p.main++exBR p.decls,smEx x:=by
 intro x a;rcases eu.1 a with a | a
 ·exact nodes_sm _ hp.2 x a
 ·obtain ⟨d,b,a⟩:=ez.1 a;unfold exD at a;split at a
  ·exact nodes_sm _ (hp.1.2 d b).2.2.2.2.2.2.2 x a
  ·cases a
def alE (p:Prg) (k:Nat):List Ex:=AB p.main++exBR (p.decls.take k)
theorem Lo (p:Prg) (k:Nat) (h:k < p.decls.length):alE p (k + 1)=alE p k++exD p.decls[k]:=by unfold alE; rw[T9 _ _ h,eE]
theorem Ni (p:Prg):alE p p.decls.length=AB p.main++exBR p.decls:=by unfold alE; rw[eo]
theorem MK (p:Prg) (k:Nat):(alE p k).length≤(alE p p.decls.length).length:=by
 have:=abL p.decls k;rw[Ni];unfold alE;simp only[dQ];omega
theorem OL (p:Prg):alE p 0=AB p.main:=by unfold alE; simp[exBR]
set_option maxRecDepth 100000 in
set_option maxHeartbeats 2000000 in
theorem WO (p:Prg) (hp:smPr p) (hw:wN (Bx p)≤600) (g q:Nat) :
  ACalls E 12 [AZ p] [] g q (dI (ofV2 p ((alE p p.decls.length).foldl nmR []).length ((alE p p.decls.length).foldl tgF 0) (hgt p ((Dd p).length + (De p).length)))) []:=by
 have c5:=QJ p;have R:=Yo hp;have aq:=hp;obtain ⟨⟨k1,k2⟩,k3⟩:=hp;have cf:=Ik p;have ce:=Il p;have ap:=PZ (n:=(Dd p).length + (De p).length) hw (by omega);have cd:=GT p.decls 0;have ak:inR ((p.decls.foldl dcF 0:Nat):Int):=inN (by omega);have ao:p.decls.foldl foF 0≤1000000:=T8 _ _ _ (dX _) fun d hd=>ef (k2 d hd).2.1.1 (by omega);have al:(AB p.main++exBR p.decls).foldl tgF 0≤1000000:=T5 _ _ _ (dX _) fun e S=>((Bd e).1 (R e S)).2.2.1.1;have u:=Ko ak (p.decls.foldl foF 0) (hgt p ((Dd p).length + (De p).length));have c6:=MK p 0;rw[← Ni] at c5 R al;rw[OL] at c6
 refine Ax 91 Tryz.call12 Tryz.func12 ?_;simp only[go_sem];refine Aa fun _ br=>Ac 2 fun A _=>?_;simp only[go_sem];refine br (Aa fun _ bw=>Ac 1 fun _ _=>?_);simp only[go_sem];refine bw (Aa fun _ bF=>Ac 1 fun _ _=>?_);simp only[go_sem];refine bF (Aa fun _ bM=>Ac 1 fun _ _=>?_);simp only[go_sem];refine bM (Aa fun _ bR=>Ac 1 fun _ _=>?_);simp only[go_sem];refine bR (Aa fun _ bh=>?_);refine Bh 6 9 1 rfl fun gn c9=>?_;have hn:gn≠A:=Ar c9 1 0 (by simp[go_sem]);refine Ch ⟨gn,0,0⟩ ?_;simp only[go_sem,hn.symm];by_cases h0:0 < p.main.kids.length
 ·refine Am fun g5 bm cc bp ah aF=>Af 2 ah ?_;simp only[go_sem];refine AA ah rfl rfl rfl (Sj p.main (smEx.ok _ k3) (by omega) h0 _ _) (CoL.refl _) ?_;refine Ad 1 ah ?_;simp only[go_sem];refine aF (bh (Aa fun _ bl=>Aa fun _ c3=>?_));have aP:g5≠A:=Ar bm 1 0 (by simp[go_sem]);refine Ac 1 fun g6 c8=>?_;simp only[go_sem];refine c3 (Ai ?_);refine Ay (fun m s=>∃ k,k≤p.decls.length∧m=p.decls.length - k ∧
    ((alE p k=[p.main]∧Le { env:=[(1,.ptr ⟨A,1,0⟩ 0),(3,dN ((p.decls.take k).foldl dcF 0)),(4,dN ((p.decls.take k).foldl foF 0)),(5,dI 0),(6,slS []),(7,.sl true [AK p.main]),(8,dN k)],σ:=[(⟨A,1,0⟩,.box 30 (prC p))] } s) ∨
    ∃ a i j,a≠A∧Le { env:=[(1,.ptr ⟨A,1,0⟩ 0),(3,dN ((p.decls.take k).foldl dcF 0)),(4,dN ((p.decls.take k).foldl foF 0)),(5,dI 0),(6,slS []),(7,.own ⟨a,i,j⟩ (alE p k).length),(8,dN k)],σ:=[(⟨A,1,0⟩,.box 30 (prC p)),(⟨a,i,j⟩,.arr 28 8 ((alE p k).map AK))] } s)) p.decls.length ?_ ?_
  ·refine ⟨0,dX _,rfl,.inr ⟨g5,13,1,aP,Ao ?_⟩⟩;simp only[go_sem,OL,aP,aP.symm];all_goals first|trivial|omega
  ·rintro m s ⟨k,P,rfl,⟨ag,C⟩ | ⟨a,i,j,B,C⟩⟩
   ·refine Az C ?_;clear C;refine Aa fun _ c4=>Aa fun _ aV=>?_;by_cases b:k < p.decls.length
    ·have l:=getM (f:=Ce) b;have a5:=k2 _ (dP b);have r:=BP dcF 0 b;have h:=BP foF 0 b;have F:=Lo p k b;have aj:=MK p (k + 1);have a6:=GT (p.decls.take k) 0;rw[eG P] at a6;refine Ac 5 fun Y ab=>?_;simp only[go_sem,b];refine aV (Al (Ae (c4 (Aa fun _ aW=>Ai (Aa fun _ aX=>?_)))));generalize p.decls[k]=D at *;generalize (p.decls.take k).foldl dcF 0=G at *;generalize (p.decls.take k).foldl foF 0=H at *;by_cases t:D.kind=3
     ·have v:dcF G D=G:=by unfold dcF; rw[if_pos t]
      have w:foF H D=H:=by unfold foF; rw[if_pos t]
      have M:exD D=AB D.body:=by unfold exD; rw[if_pos t]
      rw[v] at r;rw[w] at h;rw[M] at F;rw[F,dQ] at aj;have am:=Fd D.body;refine Ac 7 fun g9 ad=>?_;simp only[go_sem,l,t];refine aX (Al (Am fun Q a7 aQ ar I a1=>Af 7 I ?_));simp only[go_sem,l];refine AA I rfl rfl rfl (DB D.body (smEx.ok _ a5.2.2.2.2.2.2.2) (by omega) _ _) (CoL.refl _) ?_;refine HE I rfl rfl rfl rfl rfl es26 sz28 by28 ze28 rfl (by decide) ?_;simp only[go_sem,EF,EF];refine ⟨am,⟨by omega,by omega⟩,?_⟩;refine Ad 1 I ?_;simp only[go_sem];refine a1 (aW ?_);have N:Q≠A:=Ar a7 1 0 (by simp[go_sem])
      skip
      refine Ac 3 fun Z ac=>?_;simp only[go_sem];try simp (disch:=omega) only[Au]
      refine ⟨_,?_,k + 1,b,rfl,.inr ⟨Q,36,0,N,Ao ?_⟩⟩
      ·omega
      simp only[go_sem,r,h,F,ag,N,N.symm];all_goals first|trivial|omega
     ·have v:dcF G D=G + 1:=by unfold dcF; rw[if_neg t]
      have w:foF H D=max H D.formals.length:=by unfold foF; rw[if_neg t]
      have M:exD D=[]:=by unfold exD; rw[if_neg t]
      rw[v] at r;rw[w] at h;rw[M,fe] at F;refine Ac 7 fun g9 ad=>?_;simp only[go_sem,l,t];refine aX (Aj (Aa fun _ bs=>Ac 3 fun ax aI=>?_));simp only[go_sem];try simp (disch:=omega) only[Au]
      refine bs (Ac 10 fun ay aJ=>?_);simp only[go_sem,l,mmN];refine aW (Ac 3 fun Z ac=>?_);simp only[go_sem];try simp (disch:=omega) only[Au]
      refine ⟨_,?_,k + 1,b,rfl,.inl ⟨F.trans ag,Ao ?_⟩⟩
      ·omega
      simp only[go_sem,r,h];all_goals first|trivial|omega
    ·have:k=p.decls.length:=by omega
     subst this;refine Ac 5 fun Y ab=>?_;simp only[go_sem,b];refine aV (Aj (Aq (bl (Aa fun _ bt=>Aa fun _ bu=>Ac 1 fun az aK=>?_))));simp only[go_sem];refine bu (Ai ?_)
     skip
     skip
     generalize alE p p.decls.length=L at *;have aG:L.map AK=[AK p.main]:=by rw[ag]; rfl
     -- the second loop,over the expressions
     refine Ay (fun m s=>∃ k c,k≤L.length∧m=L.length - k∧c=(L.take k).foldl nmR [] ∧
       Le { env:=[(1,.ptr ⟨A,1,0⟩ 0),(3,dN (p.decls.foldl dcF 0)),(4,dN (p.decls.foldl foF 0)),(5,dN ((L.take k).foldl tgF 0)),(6,slS c),(7,.sl true (L.map AK)),(9,dN k)],σ:=[(⟨A,1,0⟩,.box 30 (prC p))] } s) L.length ?_ ?_
     ·refine ⟨0,[],dX _,rfl,rfl,Ao ?_⟩;simp only[go_sem,aG];all_goals first|trivial|omega
     ·rintro m s ⟨k,c,P,rfl,z,C⟩;refine Az C ?_;clear C;refine Aa fun _ bv=>Aa fun _ aY=>?_;by_cases b:k < L.length
      ·have l:=getM (f:=AK) b;have ai:=(Bd _).1 (R _ (dP b));have r:=BP tgF 0 b;have h:=BP nmR [] b;rw[← z] at h;have ae:c.length≤k:=by
        have:=EQ (L.take k) [];rw[← z,eG P] at this;simpa using this
       have af:∀ x∈c,x.size≤9223372036854775807:=fun x K=>by
        rw[z,Iu] at K;rcases K with ⟨e,S,_,rfl⟩ | K
        ·have:=((Bd _).1 (R e (ff S))).1;omega
        ·cases K
       have aH:=ai.1;refine Ac 4 fun U a8=>?_;simp only[go_sem,b];refine aY (Al (Ae (bv (Aa fun _ aZ=>Ai (Aa fun _ b0=>?_)))));generalize L[k]=X at *;generalize (L.take k).foldl tgF 0=T at *;by_cases y:X.kind=2
       ·have v:tgF T X=max T X.targs.length:=by unfold tgF; rw[if_pos y]
        have w:nmR c X=putS c X.name:=by unfold nmR; rw[if_pos y]
        rw[v] at r;rw[w] at h;refine Ac 6 fun W aa=>?_;simp only[go_sem,l,y];refine b0 (Al (Aa fun _ bx=>Am fun aA aL aR au O a2=>Af 6 O ?_));simp only[go_sem,l];refine AA O rfl rfl rfl (EG c (by omega) X.name (by omega) af _ _) (CoL.refl _) ?_;refine Ad 1 O ?_;simp only[go_sem];refine a2 (bx (Ac 9 fun aB aM=>?_));simp only[go_sem,l,mmN];refine aZ (Ac 3 fun V a9=>?_);simp only[go_sem];try simp (disch:=omega) only[Au]
        refine ⟨_,?_,k + 1,_,b,rfl,h.symm,Ao ?_⟩
        ·omega
        simp only[go_sem,r];all_goals first|trivial|omega
       ·have v:tgF T X=T:=by unfold tgF; rw[if_neg y]
        have w:nmR c X=c:=by unfold nmR; rw[if_neg y]
        rw[v] at r;rw[w] at h;refine Ac 6 fun W aa=>?_;simp only[go_sem,l,y];refine b0 (Aj (Ae (aZ (Ac 3 fun V a9=>?_))));simp only[go_sem];try simp (disch:=omega) only[Au]
        refine ⟨_,?_,k + 1,_,b,rfl,h.symm,Ao ?_⟩
        ·omega
        simp only[go_sem,r];all_goals first|trivial|omega
      ·have:k=L.length:=by omega
       subst this;rw[eo] at z;refine Ac 4 fun U a8=>?_;simp only[go_sem,b];refine aY (Aj (Aq (bt (Aa fun _ bz=>?_))));have ae:c.length≤L.length:=by
        have:=EQ L [];rw[← z] at this;simpa using this
       refine Am fun aC aN aS av J a3=>Af 3 J ?_;simp only[go_sem];refine AA J rfl rfl rfl (D6 p aq (by omega) _ _) (CoL.refl _) ?_;refine Ak J (EP _ (p.decls.foldl foF 0) ak ao (hgt p ((Dd p).length + (De p).length)) ap _ _) ?_;refine Ad 1 J ?_;simp only[go_sem];refine a3 (bz (Aa fun _ bA=>Am fun aD aO aT aw o a4=>Af 4 o ?_));simp only[go_sem];refine AA o rfl rfl rfl (CS _ _ u (inN (n:=c.length) (by omega)) _ _) (CoL.refl _) ?_;refine Af 1 o ?_;simp only[go_sem];refine Ak o (Dl _ _ u Cn _ _) ?_;refine Af 1 o ?_;simp only[go_sem];refine Ak o (EO _ (CK u Cn) (L.foldl tgF 0) al _ _) ?_
       refine AA o rfl rfl rfl (CS _ _ (Df u (inN (n:=c.length) (by omega))) (Dm (CK u Cn) _) _ _) (CoL.refl _) ?_;refine AA o rfl rfl rfl (Dl _ _ u (Df (Df u (inN (n:=c.length) (by omega))) (Dm (CK u Cn) _)) _ _) (CoL.refl _) ?_;refine Ad 1 o ?_;simp only[go_sem];refine a4 (bA (Ah (Ag ?_)));simp only[go_sem];exact Co.of_eq (by rw[z]; rfl)
   ·refine Az C ?_;clear C;refine Aa fun _ bB=>Aa fun _ b1=>?_;by_cases b:k < p.decls.length
    ·have l:=getM (f:=Ce) b;have a5:=k2 _ (dP b);have r:=BP dcF 0 b;have h:=BP foF 0 b;have F:=Lo p k b;have aj:=MK p (k + 1);have a6:=GT (p.decls.take k) 0;rw[eG P] at a6;refine Ac 5 fun Y ab=>?_;simp only[go_sem,b,B];refine b1 (Al (Ae (bB (Aa fun _ b2=>Ai (Aa fun _ b3=>?_)))));generalize p.decls[k]=D at *;generalize (p.decls.take k).foldl dcF 0=G at *;generalize (p.decls.take k).foldl foF 0=H at *;by_cases t:D.kind=3
     ·have v:dcF G D=G:=by unfold dcF; rw[if_pos t]
      have w:foF H D=H:=by unfold foF; rw[if_pos t]
      have M:exD D=AB D.body:=by unfold exD; rw[if_pos t]
      rw[v] at r;rw[w] at h;rw[M] at F;rw[F,dQ] at aj;have am:=Fd D.body;refine Ac 7 fun g9 ad=>?_;simp only[go_sem,l,t,B];refine b3 (Al (Am fun Q a7 aQ ar I a1=>Af 7 I ?_));simp only[go_sem,l,B];refine AA I rfl rfl rfl (DB D.body (smEx.ok _ a5.2.2.2.2.2.2.2) (by omega) _ _) (CoL.refl _) ?_;refine AG I rfl rfl rfl rfl rfl es26 sz28 by28 ze28 rfl (by decide) ?_;simp only[go_sem,B.symm,EF];first | refine ⟨⟨by omega,by omega⟩,?_⟩ | skip
      skip
      skip
      have N:Q≠A:=Ar a7 1 0 (by simp[go_sem]);refine Ad 1 I ?_;simp only[go_sem];refine a1 (b2 (Ac 3 fun Z ac=>?_));simp only[go_sem];try simp (disch:=omega) only[Au]
      refine ⟨_,?_,k + 1,b,rfl,.inr ⟨Q,36,0,N,Ao ?_⟩⟩
      ·omega
      simp only[go_sem,r,h,F,N,N.symm];all_goals first|trivial|omega
     ·have v:dcF G D=G + 1:=by unfold dcF; rw[if_neg t]
      have w:foF H D=max H D.formals.length:=by unfold foF; rw[if_neg t]
      have M:exD D=[]:=by unfold exD; rw[if_neg t]
      rw[v] at r;rw[w] at h;rw[M,fe] at F;refine Ac 7 fun g9 ad=>?_;simp only[go_sem,l,t,B];refine b3 (Aj (Aa fun _ bC=>Ac 3 fun ax aI=>?_));simp only[go_sem];try simp (disch:=omega) only[Au]
      refine bC (Ac 10 fun ay aJ=>?_);simp only[go_sem,l,mmN,B];refine b2 (Ac 3 fun Z ac=>?_);simp only[go_sem];try simp (disch:=omega) only[Au]
      refine ⟨_,?_,k + 1,b,rfl,.inr ⟨a,i,j,B,Ao ?_⟩⟩
      ·omega
      simp only[go_sem,r,h,F,B,B.symm];all_goals first|trivial|omega
    ·have:k=p.decls.length:=by omega
     subst this;refine Ac 5 fun Y ab=>?_;simp only[go_sem,b,B];refine b1 (Aj (Aq (bl (Aa fun _ bD=>Aa fun _ bE=>Ac 1 fun az aK=>?_))));simp only[go_sem];refine bE (Ai ?_);refine Ch ⟨a,i,j⟩ ?_;simp only[go_sem,B.symm];generalize alE p p.decls.length=L at *
     skip
     -- the second loop,over the expressions
     refine Ay (fun m s=>∃ k c,k≤L.length∧m=L.length - k∧c=(L.take k).foldl nmR [] ∧
       Le { env:=[(1,.ptr ⟨A,1,0⟩ 0),(3,dN (p.decls.foldl dcF 0)),(4,dN (p.decls.foldl foF 0)),(5,dN ((L.take k).foldl tgF 0)),(6,slS c),(7,.sl false (L.map AK)),(9,dN k)],σ:=[(⟨A,1,0⟩,.box 30 (prC p))] } s) L.length ?_ ?_
     ·refine ⟨0,[],dX _,rfl,rfl,Ao ?_⟩;simp only[go_sem];all_goals first|trivial|omega
     ·rintro m s ⟨k,c,P,rfl,z,C⟩;refine Az C ?_;clear C;refine Aa fun _ bG=>Aa fun _ b4=>?_;by_cases b:k < L.length
      ·have l:=getM (f:=AK) b;have ai:=(Bd _).1 (R _ (dP b));have r:=BP tgF 0 b;have h:=BP nmR [] b;rw[← z] at h;have ae:c.length≤k:=by
        have:=EQ (L.take k) [];rw[← z,eG P] at this;simpa using this
       have af:∀ x∈c,x.size≤9223372036854775807:=fun x K=>by
        rw[z,Iu] at K;rcases K with ⟨e,S,_,rfl⟩ | K
        ·have:=((Bd _).1 (R e (ff S))).1;omega
        ·cases K
       have aH:=ai.1;refine Ac 4 fun U a8=>?_;simp only[go_sem,b];refine b4 (Al (Ae (bG (Aa fun _ b5=>Ai (Aa fun _ b6=>?_)))));generalize L[k]=X at *;generalize (L.take k).foldl tgF 0=T at *;by_cases y:X.kind=2
       ·have v:tgF T X=max T X.targs.length:=by unfold tgF; rw[if_pos y]
        have w:nmR c X=putS c X.name:=by unfold nmR; rw[if_pos y]
        rw[v] at r;rw[w] at h;refine Ac 6 fun W aa=>?_;simp only[go_sem,l,y];refine b6 (Al (Aa fun _ bH=>Am fun aA aL aR au O a2=>Af 6 O ?_));simp only[go_sem,l];refine AA O rfl rfl rfl (EG c (by omega) X.name (by omega) af _ _) (CoL.refl _) ?_;refine Ad 1 O ?_;simp only[go_sem];refine a2 (bH (Ac 9 fun aB aM=>?_));simp only[go_sem,l,mmN];refine b5 (Ac 3 fun V a9=>?_);simp only[go_sem];try simp (disch:=omega) only[Au]
        refine ⟨_,?_,k + 1,_,b,rfl,h.symm,Ao ?_⟩
        ·omega
        simp only[go_sem,r];all_goals first|trivial|omega
       ·have v:tgF T X=T:=by unfold tgF; rw[if_neg y]
        have w:nmR c X=c:=by unfold nmR; rw[if_neg y]
        rw[v] at r;rw[w] at h;refine Ac 6 fun W aa=>?_;simp only[go_sem,l,y];refine b6 (Aj (Ae (b5 (Ac 3 fun V a9=>?_))));simp only[go_sem];try simp (disch:=omega) only[Au]
        refine ⟨_,?_,k + 1,_,b,rfl,h.symm,Ao ?_⟩
        ·omega
        simp only[go_sem,r];all_goals first|trivial|omega
      ·have:k=L.length:=by omega
       subst this;rw[eo] at z;refine Ac 4 fun U a8=>?_;simp only[go_sem,b];refine b4 (Aj (Aq (bD (Aa fun _ bI=>?_))));have ae:c.length≤L.length:=by
        have:=EQ L [];rw[← z] at this;simpa using this
       refine Am fun aC aN aS av J a3=>Af 3 J ?_;simp only[go_sem];refine AA J rfl rfl rfl (D6 p aq (by omega) _ _) (CoL.refl _) ?_;refine Ak J (EP _ (p.decls.foldl foF 0) ak ao (hgt p ((Dd p).length + (De p).length)) ap _ _) ?_;refine Ad 1 J ?_;simp only[go_sem];refine a3 (bI (Aa fun _ bJ=>Am fun aD aO aT aw o a4=>Af 4 o ?_));simp only[go_sem];refine AA o rfl rfl rfl (CS _ _ u (inN (n:=c.length) (by omega)) _ _) (CoL.refl _) ?_;refine Af 1 o ?_;simp only[go_sem];refine Ak o (Dl _ _ u Cn _ _) ?_;refine Af 1 o ?_;simp only[go_sem];refine Ak o (EO _ (CK u Cn) (L.foldl tgF 0) al _ _) ?_
       refine AA o rfl rfl rfl (CS _ _ (Df u (inN (n:=c.length) (by omega))) (Dm (CK u Cn) _) _ _) (CoL.refl _) ?_;refine AA o rfl rfl rfl (Dl _ _ u (Df (Df u (inN (n:=c.length) (by omega))) (Dm (CK u Cn) _)) _ _) (CoL.refl _) ?_;refine Ad 1 o ?_;simp only[go_sem];refine a4 (bJ (Ah (Ag ?_)));simp only[go_sem];exact Co.of_eq (by rw[z]; rfl)
 ·have bn:p.main.kids=[]:=ex (by omega);have hz:alE p 0=[p.main]:=by rw[OL,BC,bn]; rfl
  refine Am fun g5 bm cc bp ah aF=>Af 2 ah ?_;simp only[go_sem];refine Ak ah (Si p.main (smEx.ok _ k3) bn _ _) ?_;refine Ad 1 ah ?_;simp only[go_sem];refine aF (bh (Aa fun _ b7=>Aa fun _ bK=>Ac 1 fun g6 c8=>?_));simp only[go_sem];refine bK (Ai ?_);refine Ay (fun m s=>∃ k,k≤p.decls.length∧m=p.decls.length - k ∧
    ((alE p k=[p.main]∧Le { env:=[(1,.ptr ⟨A,1,0⟩ 0),(3,dN ((p.decls.take k).foldl dcF 0)),(4,dN ((p.decls.take k).foldl foF 0)),(5,dI 0),(6,slS []),(7,.sl true [AK p.main]),(8,dN k)],σ:=[(⟨A,1,0⟩,.box 30 (prC p))] } s) ∨
    ∃ a i j,a≠A∧Le { env:=[(1,.ptr ⟨A,1,0⟩ 0),(3,dN ((p.decls.take k).foldl dcF 0)),(4,dN ((p.decls.take k).foldl foF 0)),(5,dI 0),(6,slS []),(7,.own ⟨a,i,j⟩ (alE p k).length),(8,dN k)],σ:=[(⟨A,1,0⟩,.box 30 (prC p)),(⟨a,i,j⟩,.arr 28 8 ((alE p k).map AK))] } s)) p.decls.length ?_ ?_
  ·refine ⟨0,dX _,rfl,.inl ⟨hz,Ao ?_⟩⟩;simp only[go_sem];all_goals first|trivial|omega
  ·rintro m s ⟨k,P,rfl,⟨ag,C⟩ | ⟨a,i,j,B,C⟩⟩
   ·refine Az C ?_;clear C;refine Aa fun _ bL=>Aa fun _ b8=>?_;by_cases b:k < p.decls.length
    ·have l:=getM (f:=Ce) b;have a5:=k2 _ (dP b);have r:=BP dcF 0 b;have h:=BP foF 0 b;have F:=Lo p k b;have aj:=MK p (k + 1);have a6:=GT (p.decls.take k) 0;rw[eG P] at a6;refine Ac 5 fun Y ab=>?_;simp only[go_sem,b];refine b8 (Al (Ae (bL (Aa fun _ b9=>Ai (Aa fun _ ba=>?_)))));generalize p.decls[k]=D at *;generalize (p.decls.take k).foldl dcF 0=G at *;generalize (p.decls.take k).foldl foF 0=H at *;by_cases t:D.kind=3
     ·have v:dcF G D=G:=by unfold dcF; rw[if_pos t]
      have w:foF H D=H:=by unfold foF; rw[if_pos t]
      have M:exD D=AB D.body:=by unfold exD; rw[if_pos t]
      rw[v] at r;rw[w] at h;rw[M] at F;rw[F,dQ] at aj;have am:=Fd D.body;refine Ac 7 fun g9 ad=>?_;simp only[go_sem,l,t];refine ba (Al (Am fun Q a7 aQ ar I a1=>Af 7 I ?_));simp only[go_sem,l];refine AA I rfl rfl rfl (DB D.body (smEx.ok _ a5.2.2.2.2.2.2.2) (by omega) _ _) (CoL.refl _) ?_;refine HE I rfl rfl rfl rfl rfl es26 sz28 by28 ze28 rfl (by decide) ?_;simp only[go_sem,EF,EF];refine ⟨am,⟨by omega,by omega⟩,?_⟩;refine Ad 1 I ?_;simp only[go_sem];refine a1 (b9 ?_);have N:Q≠A:=Ar a7 1 0 (by simp[go_sem])
      skip
      refine Ac 3 fun Z ac=>?_;simp only[go_sem];try simp (disch:=omega) only[Au]
      refine ⟨_,?_,k + 1,b,rfl,.inr ⟨Q,36,0,N,Ao ?_⟩⟩
      ·omega
      simp only[go_sem,r,h,F,ag,N,N.symm];all_goals first|trivial|omega
     ·have v:dcF G D=G + 1:=by unfold dcF; rw[if_neg t]
      have w:foF H D=max H D.formals.length:=by unfold foF; rw[if_neg t]
      have M:exD D=[]:=by unfold exD; rw[if_neg t]
      rw[v] at r;rw[w] at h;rw[M,fe] at F;refine Ac 7 fun g9 ad=>?_;simp only[go_sem,l,t];refine ba (Aj (Aa fun _ bN=>Ac 3 fun ax aI=>?_));simp only[go_sem];try simp (disch:=omega) only[Au]
      refine bN (Ac 10 fun ay aJ=>?_);simp only[go_sem,l,mmN];refine b9 (Ac 3 fun Z ac=>?_);simp only[go_sem];try simp (disch:=omega) only[Au]
      refine ⟨_,?_,k + 1,b,rfl,.inl ⟨F.trans ag,Ao ?_⟩⟩
      ·omega
      simp only[go_sem,r,h];all_goals first|trivial|omega
    ·have:k=p.decls.length:=by omega
     subst this;refine Ac 5 fun Y ab=>?_;simp only[go_sem,b];refine b8 (Aj (Aq (b7 (Aa fun _ bO=>Aa fun _ bP=>Ac 1 fun az aK=>?_))));simp only[go_sem];refine bP (Ai ?_)
     skip
     skip
     generalize alE p p.decls.length=L at *;have aG:L.map AK=[AK p.main]:=by rw[ag]; rfl
     -- the second loop,over the expressions
     refine Ay (fun m s=>∃ k c,k≤L.length∧m=L.length - k∧c=(L.take k).foldl nmR [] ∧
       Le { env:=[(1,.ptr ⟨A,1,0⟩ 0),(3,dN (p.decls.foldl dcF 0)),(4,dN (p.decls.foldl foF 0)),(5,dN ((L.take k).foldl tgF 0)),(6,slS c),(7,.sl true (L.map AK)),(9,dN k)],σ:=[(⟨A,1,0⟩,.box 30 (prC p))] } s) L.length ?_ ?_
     ·refine ⟨0,[],dX _,rfl,rfl,Ao ?_⟩;simp only[go_sem,aG];all_goals first|trivial|omega
     ·rintro m s ⟨k,c,P,rfl,z,C⟩;refine Az C ?_;clear C;refine Aa fun _ bQ=>Aa fun _ bb=>?_;by_cases b:k < L.length
      ·have l:=getM (f:=AK) b;have ai:=(Bd _).1 (R _ (dP b));have r:=BP tgF 0 b;have h:=BP nmR [] b;rw[← z] at h;have ae:c.length≤k:=by
        have:=EQ (L.take k) [];rw[← z,eG P] at this;simpa using this
       have af:∀ x∈c,x.size≤9223372036854775807:=fun x K=>by
        rw[z,Iu] at K;rcases K with ⟨e,S,_,rfl⟩ | K
        ·have:=((Bd _).1 (R e (ff S))).1;omega
        ·cases K
       have aH:=ai.1;refine Ac 4 fun U a8=>?_;simp only[go_sem,b];refine bb (Al (Ae (bQ (Aa fun _ bc=>Ai (Aa fun _ bd=>?_)))));generalize L[k]=X at *;generalize (L.take k).foldl tgF 0=T at *;by_cases y:X.kind=2
       ·have v:tgF T X=max T X.targs.length:=by unfold tgF; rw[if_pos y]
        have w:nmR c X=putS c X.name:=by unfold nmR; rw[if_pos y]
        rw[v] at r;rw[w] at h;refine Ac 6 fun W aa=>?_;simp only[go_sem,l,y];refine bd (Al (Aa fun _ bS=>Am fun aA aL aR au O a2=>Af 6 O ?_));simp only[go_sem,l];refine AA O rfl rfl rfl (EG c (by omega) X.name (by omega) af _ _) (CoL.refl _) ?_;refine Ad 1 O ?_;simp only[go_sem];refine a2 (bS (Ac 9 fun aB aM=>?_));simp only[go_sem,l,mmN];refine bc (Ac 3 fun V a9=>?_);simp only[go_sem];try simp (disch:=omega) only[Au]
        refine ⟨_,?_,k + 1,_,b,rfl,h.symm,Ao ?_⟩
        ·omega
        simp only[go_sem,r];all_goals first|trivial|omega
       ·have v:tgF T X=T:=by unfold tgF; rw[if_neg y]
        have w:nmR c X=c:=by unfold nmR; rw[if_neg y]
        rw[v] at r;rw[w] at h;refine Ac 6 fun W aa=>?_;simp only[go_sem,l,y];refine bd (Aj (Ae (bc (Ac 3 fun V a9=>?_))));simp only[go_sem];try simp (disch:=omega) only[Au]
        refine ⟨_,?_,k + 1,_,b,rfl,h.symm,Ao ?_⟩
        ·omega
        simp only[go_sem,r];all_goals first|trivial|omega
      ·have:k=L.length:=by omega
       subst this;rw[eo] at z;refine Ac 4 fun U a8=>?_;simp only[go_sem,b];refine bb (Aj (Aq (bO (Aa fun _ bT=>?_))));have ae:c.length≤L.length:=by
        have:=EQ L [];rw[← z] at this;simpa using this
       refine Am fun aC aN aS av J a3=>Af 3 J ?_;simp only[go_sem];refine AA J rfl rfl rfl (D6 p aq (by omega) _ _) (CoL.refl _) ?_;refine Ak J (EP _ (p.decls.foldl foF 0) ak ao (hgt p ((Dd p).length + (De p).length)) ap _ _) ?_;refine Ad 1 J ?_;simp only[go_sem];refine a3 (bT (Aa fun _ bU=>Am fun aD aO aT aw o a4=>Af 4 o ?_));simp only[go_sem];refine AA o rfl rfl rfl (CS _ _ u (inN (n:=c.length) (by omega)) _ _) (CoL.refl _) ?_;refine Af 1 o ?_;simp only[go_sem];refine Ak o (Dl _ _ u Cn _ _) ?_;refine Af 1 o ?_;simp only[go_sem];refine Ak o (EO _ (CK u Cn) (L.foldl tgF 0) al _ _) ?_
       refine AA o rfl rfl rfl (CS _ _ (Df u (inN (n:=c.length) (by omega))) (Dm (CK u Cn) _) _ _) (CoL.refl _) ?_;refine AA o rfl rfl rfl (Dl _ _ u (Df (Df u (inN (n:=c.length) (by omega))) (Dm (CK u Cn) _)) _ _) (CoL.refl _) ?_;refine Ad 1 o ?_;simp only[go_sem];refine a4 (bU (Ah (Ag ?_)));simp only[go_sem];exact Co.of_eq (by rw[z]; rfl)
   ·refine Az C ?_;clear C;refine Aa fun _ bV=>Aa fun _ be=>?_;by_cases b:k < p.decls.length
    ·have l:=getM (f:=Ce) b;have a5:=k2 _ (dP b);have r:=BP dcF 0 b;have h:=BP foF 0 b;have F:=Lo p k b;have aj:=MK p (k + 1);have a6:=GT (p.decls.take k) 0;rw[eG P] at a6;refine Ac 5 fun Y ab=>?_;simp only[go_sem,b,B];refine be (Al (Ae (bV (Aa fun _ bf=>Ai (Aa fun _ bg=>?_)))));generalize p.decls[k]=D at *;generalize (p.decls.take k).foldl dcF 0=G at *;generalize (p.decls.take k).foldl foF 0=H at *;by_cases t:D.kind=3
     ·have v:dcF G D=G:=by unfold dcF; rw[if_pos t]
      have w:foF H D=H:=by unfold foF; rw[if_pos t]
      have M:exD D=AB D.body:=by unfold exD; rw[if_pos t]
      rw[v] at r;rw[w] at h;rw[M] at F;rw[F,dQ] at aj;have am:=Fd D.body;refine Ac 7 fun g9 ad=>?_;simp only[go_sem,l,t,B];refine bg (Al (Am fun Q a7 aQ ar I a1=>Af 7 I ?_));simp only[go_sem,l,B];refine AA I rfl rfl rfl (DB D.body (smEx.ok _ a5.2.2.2.2.2.2.2) (by omega) _ _) (CoL.refl _) ?_;refine AG I rfl rfl rfl rfl rfl es26 sz28 by28 ze28 rfl (by decide) ?_;simp only[go_sem,B.symm,EF];first | refine ⟨⟨by omega,by omega⟩,?_⟩ | skip
      skip
      skip
      have N:Q≠A:=Ar a7 1 0 (by simp[go_sem]);refine Ad 1 I ?_;simp only[go_sem];refine a1 (bf (Ac 3 fun Z ac=>?_));simp only[go_sem];try simp (disch:=omega) only[Au]
      refine ⟨_,?_,k + 1,b,rfl,.inr ⟨Q,36,0,N,Ao ?_⟩⟩
      ·omega
      simp only[go_sem,r,h,F,N,N.symm];all_goals first|trivial|omega
     ·have v:dcF G D=G + 1:=by unfold dcF; rw[if_neg t]
      have w:foF H D=max H D.formals.length:=by unfold foF; rw[if_neg t]
      have M:exD D=[]:=by unfold exD; rw[if_neg t]
      rw[v] at r;rw[w] at h;rw[M,fe] at F;refine Ac 7 fun g9 ad=>?_;simp only[go_sem,l,t,B];refine bg (Aj (Aa fun _ bW=>Ac 3 fun ax aI=>?_));simp only[go_sem];try simp (disch:=omega) only[Au]
      refine bW (Ac 10 fun ay aJ=>?_);simp only[go_sem,l,mmN,B];refine bf (Ac 3 fun Z ac=>?_);simp only[go_sem];try simp (disch:=omega) only[Au]
      refine ⟨_,?_,k + 1,b,rfl,.inr ⟨a,i,j,B,Ao ?_⟩⟩
      ·omega
      simp only[go_sem,r,h,F,B,B.symm];all_goals first|trivial|omega
    ·have:k=p.decls.length:=by omega
     subst this;refine Ac 5 fun Y ab=>?_;simp only[go_sem,b,B];refine be (Aj (Aq (b7 (Aa fun _ bX=>Aa fun _ bY=>Ac 1 fun az aK=>?_))));simp only[go_sem];refine bY (Ai ?_);refine Ch ⟨a,i,j⟩ ?_;simp only[go_sem,B.symm];generalize alE p p.decls.length=L at *
     skip
     -- the second loop,over the expressions
     refine Ay (fun m s=>∃ k c,k≤L.length∧m=L.length - k∧c=(L.take k).foldl nmR [] ∧
       Le { env:=[(1,.ptr ⟨A,1,0⟩ 0),(3,dN (p.decls.foldl dcF 0)),(4,dN (p.decls.foldl foF 0)),(5,dN ((L.take k).foldl tgF 0)),(6,slS c),(7,.sl false (L.map AK)),(9,dN k)],σ:=[(⟨A,1,0⟩,.box 30 (prC p))] } s) L.length ?_ ?_
     ·refine ⟨0,[],dX _,rfl,rfl,Ao ?_⟩;simp only[go_sem];all_goals first|trivial|omega
     ·rintro m s ⟨k,c,P,rfl,z,C⟩;refine Az C ?_;clear C;refine Aa fun _ bZ=>Aa fun _ bi=>?_;by_cases b:k < L.length
      ·have l:=getM (f:=AK) b;have ai:=(Bd _).1 (R _ (dP b));have r:=BP tgF 0 b;have h:=BP nmR [] b;rw[← z] at h;have ae:c.length≤k:=by
        have:=EQ (L.take k) [];rw[← z,eG P] at this;simpa using this
       have af:∀ x∈c,x.size≤9223372036854775807:=fun x K=>by
        rw[z,Iu] at K;rcases K with ⟨e,S,_,rfl⟩ | K
        ·have:=((Bd _).1 (R e (ff S))).1;omega
        ·cases K
       have aH:=ai.1;refine Ac 4 fun U a8=>?_;simp only[go_sem,b];refine bi (Al (Ae (bZ (Aa fun _ bj=>Ai (Aa fun _ bk=>?_)))));generalize L[k]=X at *;generalize (L.take k).foldl tgF 0=T at *;by_cases y:X.kind=2
       ·have v:tgF T X=max T X.targs.length:=by unfold tgF; rw[if_pos y]
        have w:nmR c X=putS c X.name:=by unfold nmR; rw[if_pos y]
        rw[v] at r;rw[w] at h;refine Ac 6 fun W aa=>?_;simp only[go_sem,l,y];refine bk (Al (Aa fun _ c0=>Am fun aA aL aR au O a2=>Af 6 O ?_));simp only[go_sem,l];refine AA O rfl rfl rfl (EG c (by omega) X.name (by omega) af _ _) (CoL.refl _) ?_;refine Ad 1 O ?_;simp only[go_sem];refine a2 (c0 (Ac 9 fun aB aM=>?_));simp only[go_sem,l,mmN];refine bj (Ac 3 fun V a9=>?_);simp only[go_sem];try simp (disch:=omega) only[Au]
        refine ⟨_,?_,k + 1,_,b,rfl,h.symm,Ao ?_⟩
        ·omega
        simp only[go_sem,r];all_goals first|trivial|omega
       ·have v:tgF T X=T:=by unfold tgF; rw[if_neg y]
        have w:nmR c X=c:=by unfold nmR; rw[if_neg y]
        rw[v] at r;rw[w] at h;refine Ac 6 fun W aa=>?_;simp only[go_sem,l,y];refine bk (Aj (Ae (bj (Ac 3 fun V a9=>?_))));simp only[go_sem];try simp (disch:=omega) only[Au]
        refine ⟨_,?_,k + 1,_,b,rfl,h.symm,Ao ?_⟩
        ·omega
        simp only[go_sem,r];all_goals first|trivial|omega
      ·have:k=L.length:=by omega
       subst this;rw[eo] at z;refine Ac 4 fun U a8=>?_;simp only[go_sem,b];refine bi (Aj (Aq (bX (Aa fun _ c1=>?_))));have ae:c.length≤L.length:=by
        have:=EQ L [];rw[← z] at this;simpa using this
       refine Am fun aC aN aS av J a3=>Af 3 J ?_;simp only[go_sem];refine AA J rfl rfl rfl (D6 p aq (by omega) _ _) (CoL.refl _) ?_;refine Ak J (EP _ (p.decls.foldl foF 0) ak ao (hgt p ((Dd p).length + (De p).length)) ap _ _) ?_;refine Ad 1 J ?_;simp only[go_sem];refine a3 (c1 (Aa fun _ c2=>Am fun aD aO aT aw o a4=>Af 4 o ?_));simp only[go_sem];refine AA o rfl rfl rfl (CS _ _ u (inN (n:=c.length) (by omega)) _ _) (CoL.refl _) ?_;refine Af 1 o ?_;simp only[go_sem];refine Ak o (Dl _ _ u Cn _ _) ?_;refine Af 1 o ?_;simp only[go_sem];refine Ak o (EO _ (CK u Cn) (L.foldl tgF 0) al _ _) ?_
       refine AA o rfl rfl rfl (CS _ _ (Df u (inN (n:=c.length) (by omega))) (Dm (CK u Cn) _) _ _) (CoL.refl _) ?_;refine AA o rfl rfl rfl (Dl _ _ u (Df (Df u (inN (n:=c.length) (by omega))) (Dm (CK u Cn) _)) _ _) (CoL.refl _) ?_;refine Ad 1 o ?_;simp only[go_sem];refine a4 (c2 (Ah (Ag ?_)));simp only[go_sem];exact Co.of_eq (by rw[z]; rfl)
theorem acb (g d:Nat):ACalls E 135 [.val (.int .u64 0)] [] g d (dI 0) []:=by
 refine Ax 8 Tryz.call135 Tryz.func135 ?_;simp only[go_sem];refine Aa fun _ b=>Ac 1 fun _ _=>?_;simp only[go_sem];refine b (Aa fun _ c=>Aj (Ae (c (Aa fun _ e=>Am fun _ _ _ _ a f=>Af 1 a ?_))));simp only[go_sem];refine Ak a (abf _ _) ?_;refine Ad 1 a ?_;simp only[go_sem];refine f (e (Ah (Ag ?_)));simp only[go_sem];exact Co.refl _
set_option maxRecDepth 100000 in
theorem QK (cmp:D) (g d:Nat):ACalls E 148 [nilS,dI 0,dI 0,cmp] [] g d (.tup []) []:=by
 have b:(0:Int) + 1=1:=rfl;have h:IntKind.i64.wrap 1=1:=by decide
 have f:((1:Int) < 0)=False:=eq_false (by decide);refine Ax 53 Tryz.call148 Tryz.func148 ?_;simp only[go_sem];refine Aa fun _ c=>Ac 3 fun _ _=>?_;simp only[go_sem,b,h];try simp (disch:=omega) only[Au,Ba,dZ,ed]
 refine c (Ai ?_);refine Ay (fun m s=>m=0∧Le { env:=[(2,dI 0),(8,dI 1)],σ:=[] } s) 0 ?_ ?_
 ·refine ⟨rfl,Ao ?_⟩;simp only[go_sem];all_goals first|trivial|omega
 ·rintro m s ⟨rfl,a⟩;refine Az a ?_;clear a;refine Aa fun _ _=>Aa fun _ e=>Ac 3 fun _ _=>?_;simp only[go_sem,f];refine e (Aj (Aq (Ag ?_)));simp only[go_sem];exact Co.refl _
set_option maxRecDepth 100000 in
theorem ZV (x cmp:D) (g d:Nat):ACalls E 134 [nilS,dI 0,dI 0,x,cmp] [] g d (.tup []) []:=by
 have l:(0:Int) - 0=0:=rfl;have n : IntKind.i64.wrap 0=0:=by decide
 have k:((0:Int)≤12)=True:=eq_true (by decide);refine Ax 148 Tryz.call134 Tryz.func134 ?_;simp only[go_sem];refine Aa fun _ c=>Ac 1 fun _ _=>?_;simp only[go_sem];refine c (Aa fun _ e=>Ac 1 fun _ _=>?_);simp only[go_sem];refine e (Ai ?_);refine Ay (fun m s=>m=0∧Le { env:=[(0,nilS),(1,dI 0),(2,dI 0),(4,cmp)],σ:=[] } s) 0 ?_ ?_
 ·refine ⟨rfl,Ao ?_⟩;simp only[go_sem];all_goals first|trivial|omega
 ·rintro m s ⟨rfl,b⟩;refine Az b ?_;clear b;refine Ai (Aa fun _ f=>Ac 4 fun _ _=>?_);simp only[go_sem,l,n];try simp (disch:=omega) only[Au,Ba,dZ,ed]
  refine f (Aa fun _ _=>Aa fun _ h=>Ac 2 fun _ _=>?_);simp only[go_sem,k];refine h (Al (Aa fun _ i=>Am fun _ _ _ _ a j=>Af 4 a ?_));simp only[go_sem];refine Ak a (QK cmp _ _) ?_;refine Ad 0 a ?_;simp only[go_sem];refine j (i (Ah (Ag ?_)));simp only[go_sem];exact Co.refl _
theorem Yp (cmp:D) (g d:Nat):ACalls E 100 [nilS,cmp] [] g d (.tup []) []:=by
 have f:IntKind.u64.wrap 0=0:=by decide
 have b:((0:Nat):Int)=0:=rfl;refine Ax 14 Tryz.call100 Tryz.func100 ?_;simp only[go_sem];refine Aa fun _ c=>Ac 3 fun _ _=>?_;simp only[go_sem,b];refine c (Am fun _ _ _ _ a e=>Af 4 a ?_);simp only[go_sem,f];try simp (disch:=omega) only[Au,Ba,dZ,ed]
 refine Ak a (acb _ _) ?_;refine Af 1 a ?_;simp only[go_sem];refine Ak a (ZV _ cmp _ _) ?_;refine Ad 0 a ?_;simp only[go_sem];refine e (Ag ?_);simp only[go_sem];exact Co.refl _
theorem Ua (g d:Nat):ACalls E 102 [nilS] [] g d nilS []:=by
 refine Ax 61 Tryz.call102 Tryz.func102 ?_;simp only[go_sem];refine Aa fun _ a=>Ac 1 fun _ _=>?_;simp only[go_sem];refine a (Aa fun _ _=>Aa fun _ b=>Ac 3 fun _ _=>?_);simp only[go_sem,show (((0:Nat):Int) < 2)=True from eq_true (by decide)];refine b (Al (Aa fun _ c=>Ac 2 fun _ _=>?_));simp only[go_sem];refine c (Ah (Ag ?_));simp only[go_sem];exact Co.refl _
abbrev sgZ:D:=.agg [sE,nilS,nilS,sE,nilS,dI 0,dI 0]
theorem abM (k:Nat) (h:k < 1):([sgZ]:List D)[k]?=some sgZ:=by
 match k,h with
 | 0,_=>rfl
set_option maxRecDepth 100000 in
theorem ZW (g d:Nat):ACalls E 55 [.agg p0c] [] g d nilS []:=by
 have n:(((0:Nat):Int) < ((1:Nat):Int))=True:=eq_true (by decide);have o:(((1:Nat):Int) < ((1:Nat):Int))=False:=eq_false (by decide);refine Ax 47 Tryz.call55 Tryz.func55 ?_;simp only[go_sem];refine Aa fun _ t=>Ac 2 fun _ _=>?_;simp only[go_sem];refine t (Aa fun _ B=>Ac 1 fun a _=>?_);simp only[go_sem];refine B (Aa fun _ C=>Ac 2 fun _ _=>?_);simp only[go_sem];refine C (Aa fun _ D=>Aa fun _ F=>Ac 4 fun _ _=>?_);simp only[go_sem];refine F (Ai ?_)
 refine Ay (fun m s=>∃ k,k≤1∧m=1 - k∧Le { env:=[(3,.ptr ⟨a,3,0⟩ 0),(4,.func (.func 98) [] [.ptr ⟨a,3,0⟩ 0]),(11,.sl true [.agg dTc]),(12,dN 1),(13,dN k)],σ:=[(⟨a,3,0⟩,.box 96 [nilS])] } s) 1 ?_ ?_
 ·refine ⟨0,dX _,rfl,Ao ?_⟩;simp only[go_sem];all_goals first|trivial|omega
 ·rintro m s ⟨k,Q,rfl,b⟩;refine Az b ?_;clear b;refine Aa fun _ l=>?_;by_cases R:k < 1
  ·obtain rfl:k=0:=by omega
   refine Ac 1 fun p O=>?_;simp only[go_sem,n];refine l (Aa fun _ G=>Al (Ae (G (Aa fun _ H=>Ai (Aa fun _ I=>Ac 4 fun _ _=>?_)))));simp only[go_sem,VJ 0 (by decide)];refine I (Aa fun _ u=>Am fun _ _ _ _ i M=>Af 5 i ?_);simp only[go_sem];refine Ak i (N4 _ _ _ _ _) ?_;refine Ad 0 i ?_;simp only[go_sem];refine M (u (Aa fun _ v=>?_));refine awp_anyT 9 [0,1,3,0,8,24,63,127,0] (by kernel_rfl) (by kernel_rfl) (by kernel_rfl) rfl (fun q _ _ _ c N=>?_);refine qrunT_eval 2 c rfl ?_;simp only[go_sem];refine qrunT_pure c rfl rfl rfl (Sk _ _) (CoL.refl _) (by simp[nwOk]) ?_
   refine qrunT_eval 3 c rfl ?_;simp only[go_sem];refine qrunT_app c rfl rfl rfl rfl rfl es43 sz46 by46 ze46 rfl (by decide) rfl rfl ?_;simp only[go_sem];first | refine ⟨⟨by omega,by omega⟩,?_⟩ | skip
   refine qrunT_last 2 c rfl ?_;simp only[go_sem];refine IA ?_;refine N _ (v (Ai ?_));refine Ch ⟨q,29,0⟩ ?_;simp only[go_sem];refine Ay (fun m s=>∃ k,k≤1∧m=1 - k∧Le { env:=[(3,.ptr ⟨a,3,0⟩ 0),(4,.func (.func 98) [] [.ptr ⟨a,3,0⟩ 0]),(11,.sl true [.agg dTc]),(12,dN 1),(13,dN 0),(29,.sl false [sgZ]),(30,dN 1),(31,dN k)],σ:=[(⟨a,3,0⟩,.box 96 [nilS])] } s) 1 ?_ ?_
   ·refine ⟨0,dX _,rfl,Ao ?_⟩;simp only[go_sem];all_goals first|trivial|omega
   ·rintro m s ⟨k,Q,rfl,b⟩;refine Az b ?_;clear b;refine Aa fun _ j=>?_;by_cases R:k < 1
    ·obtain rfl:k=0:=by omega
     refine Ac 1 fun r P=>?_;simp only[go_sem,n];refine j (Aa fun _ w=>Al (Ae (w (Aa fun _ x=>Ai (Aa fun _ y=>Ac 4 fun _ _=>?_)))));simp only[go_sem,abM 0 (by decide)];refine y (Am fun _ _ _ _ e J=>Af 5 e ?_);simp only[go_sem];refine Ak e (N4 _ _ _ _ _) ?_;refine Ad 0 e ?_;simp only[go_sem];refine J (x (Ac 2 fun _ _=>?_));simp only[go_sem];try simp (disch:=omega) only[Au]
     refine ⟨_,?_,1,ec _,rfl,Ao ?_⟩
     ·omega
     simp only[go_sem];all_goals first|trivial|omega
    ·have:k=1:=by omega
     subst this;refine Ac 1 fun r P=>?_;simp only[go_sem,o];refine j (Aa fun _ _=>Aj (Aq (H (Ac 2 fun _ _=>?_))));simp only[go_sem];try simp (disch:=omega) only[Au]
     refine ⟨_,?_,1,ec _,rfl,Ao ?_⟩
     ·omega
     simp only[go_sem];all_goals first|trivial|omega
  ·have:k=1:=by omega
   subst this;refine Ac 1 fun p O=>?_;simp only[go_sem,o];refine l (Aa fun _ _=>Aj (Aq (D (Aa fun _ z=>Am fun _ _ _ _ f K=>Af 1 f ?_))));simp only[go_sem];refine Ak f (Yp _ _ _) ?_;refine Ad 0 f ?_;simp only[go_sem];refine K (z (Aa fun _ A=>Am fun _ _ _ _ h L=>Af 1 h ?_));simp only[go_sem];refine Ak h (Ua _ _) ?_;refine Ad 1 h ?_;simp only[go_sem];refine L (A (Ah (Ag ?_)));simp only[go_sem];exact Co.refl _
theorem m12:mulS 1 2=2:=by decide
theorem in1:inR 1:=by unfold inR; omega
theorem in2:inR 2:=by unfold inR; omega
theorem in0:inR 0:=by unfold inR; omega
theorem RI (g d:Nat):ACalls E 26 [.agg p0c,.agg (nC 1 (.fmap ksSR []))] [] g d (dI 2) []:=by
 have b:((0:Nat):Int) + 2=2:=rfl;have h:IntKind.i64.wrap 2=2:=by decide
 refine Ax 12 Tryz.call26 Tryz.func26 ?_;simp only[go_sem];refine Aa fun _ c=>Ac 3 fun _ _=>?_;simp only[go_sem];refine c (Aa fun _ e=>AF 7 fun _ _ _ _ a f=>Av 3 a ?_);simp only[go_sem];refine Aw a (ZW _ _) ?_;refine Av 2 a ?_;simp only[go_sem,b,h];try simp (disch:=omega) only[Au,Ba,dZ,ed]
 refine Aw a (D3 1 2 in1 in2 _ _) ?_;refine Ap 0 a ?_;simp only[go_sem,m12];refine Ad 1 a ?_;simp only[go_sem];refine f (e (Ah (Ag ?_)));simp only[go_sem];exact Co.refl _
theorem Yq (g d:Nat):ACalls E 8 [.agg p0c] [] g d (dI 2) []:=by
 refine Ax 7 Tryz.call8 Tryz.func8 ?_;simp only[go_sem];refine Aa fun _ b=>Ac 2 fun _ _=>?_;simp only[go_sem];refine b (Aa fun _ c=>AF 4 fun _ _ _ _ a e=>Av 2 a ?_);simp only[go_sem];refine Aw a (T4 _ _) ?_;refine Aw a (RI _ _) ?_;refine Ap 0 a ?_;simp only[go_sem];refine Ad 1 a ?_;simp only[go_sem];refine e (c (Ah (Ag ?_)));simp only[go_sem];exact Co.refl _
theorem t102:typS 1 0 2=1:=by decide
theorem acd (g d:Nat):ACalls E 11 [.agg p0c] [] g d (dI 1) []:=by
 have f:mulS 1 0=0:=by decide
 have h:Ec 1 1=2:=by decide
 have q:powS 2 0=1:=by decide
 have r:mulS 0 1=0:=by decide
 have i:Ec 1 0=1:=by decide
 have e:((0:Nat):Int)=0:=rfl;refine Ax 28 Tryz.call11 Tryz.func11 ?_;simp only[go_sem];refine Aa fun _ j=>Ac 2 fun _ _=>?_;simp only[go_sem];refine j (Aa fun _ k=>Am fun _ _ _ _ c n=>Af 1 c ?_);simp only[go_sem];refine Ak c (T4 _ _) ?_;refine Ad 2 c ?_;simp only[go_sem];refine n (k (Aa fun _ l=>AF 8 fun _ _ _ _ b o=>Av 6 b ?_));simp only[go_sem];refine Aw b (RI _ _) ?_;refine AI b rfl rfl rfl (JM 1 0 2 in1 (by decide) (by decide) _ _) (CoL.refl _) rfl ?_;refine Ap 0 b ?_;simp only[go_sem,t102];refine Ad 1 b ?_;simp only[go_sem];refine o (l (Aa fun _ m=>AF 13 fun _ _ _ _ a p=>Av 5 a ?_))
 simp only[go_sem,e];refine Aw a (D3 1 0 in1 in0 _ _) ?_;refine Av 1 a ?_;simp only[go_sem,f];refine Aw a (Gp 1 1 in1 in1 _ _) ?_;refine Av 2 a ?_;simp only[go_sem,h];refine AI a rfl rfl rfl (Jw 2 0 in2 (by decide) _ _) (CoL.refl _) rfl ?_;refine Aw a (D3 0 1 in0 in1 _ _) ?_;refine Aw a (Gp 1 0 in1 in0 _ _) ?_;refine Ap 0 a ?_;simp only[go_sem,i];refine Ad 1 a ?_;simp only[go_sem];refine p (m (Ah (Ag ?_)));simp only[go_sem];exact Co.refl _
set_option maxRecDepth 100000 in
theorem LH (g d:Nat):ACalls E 4 [] [] g d (dB true) []:=by
 have e:typS 2 1 2=6:=by decide
 have f:Ec 2305843009213693952 2305843009213693952=4611686018427387903:=by decide
 have h:mulS 3 4=12:=by decide
 have i:mulS 1099511627776 1099511627776=4611686018427387903:=by decide
 have j:powS 2 10=1024:=by decide
 have b:inR 2305843009213693952:=by unfold inR; omega
 have o:inR 3:=by unfold inR; omega
 have p:inR 4:=by unfold inR; omega
 have c:inR 1099511627776:=by unfold inR; omega
 refine Ax 35 Tryz.call4 Tryz.func4 ?_;simp only[go_sem];refine Aa fun _ k=>Ac 1 fun _ _=>?_;simp only[go_sem];refine k (Aa fun _ l=>Ac 7 fun _ _=>?_);simp only[go_sem];refine l (Aa fun _ m=>Am fun _ _ _ _ a n=>Af 0 a ?_);simp only[go_sem];refine AA a rfl rfl rfl (JM 2 1 2 in2 (by decide) (by decide) _ _) (CoL.refl _) ?_;refine Af 2 a ?_;simp only[go_sem,e];refine Ak a (Gp _ _ b b _ _) ?_;refine Af 3 a ?_;simp only[go_sem,f];refine Ak a (D3 3 4 o p _ _) ?_;refine Af 3 a ?_;simp only[go_sem,h];refine Ak a (D3 _ _ c c _ _) ?_;refine Af 3 a ?_;simp only[go_sem,i]
 refine AA a rfl rfl rfl (Jw 2 10 in2 (by decide) _ _) (CoL.refl _) ?_;refine Af 4 a ?_;simp only[go_sem,j];refine Ak a (Yq _ _) ?_;refine Af 4 a ?_;simp only[go_sem];refine Ak a (acd _ _) ?_;refine Ad 3 a ?_;simp only[go_sem];refine n (m (Ah (Ag ?_)));simp only[go_sem];exact Co.refl _
theorem RJ {α β:Type} {f:α→β} {l:List α} (h:l.Nodup) (hf:∀ a∈l,∀ b∈l,f a=f b→a=b):(l.map f).Nodup:=by
 unfold List.Nodup at *;rw[List.pairwise_map];exact List.Pairwise.imp_of_mem (fun {a b} c d g e=>g (hf a c b d e)) h
theorem Ub {α β:Type} {f:α→β} {l:List α} {r:List β} (h:l.Nodup) (hf:∀ a∈l,∀ b∈l,f a=f b→a=b) (hr:r.Nodup) (hm:∀ x,x∈r↔∃ a∈l,x=f a):l.length=r.length:=by
 rw[← ei (f:=f)];refine List.Perm.length_eq ?_;rw[List.perm_ext_iff_of_nodup (RJ h hf) hr];intro x;rw[hm,eh];constructor
 ·rintro ⟨a,c,rfl⟩;exact ⟨a,c,rfl⟩
 ·rintro ⟨a,c,rfl⟩;exact ⟨a,c,rfl⟩
theorem P3 {α:Type} (q:α→Bool):∀ l:List α,l.length=(l.filter q).length + (l.filter fun x=>!q x).length
 | []=>rfl
 | a :: l=>by
  have ih:=P3 q l;cases h:q a <;> simp[h] <;> omega
theorem Hg (p:Prg) (x:Nd):x∈ndP p↔(∃ s∈p.decls.map tyF,∃ k,k < s.2∧x=⟨false,s.1,(k:Int)⟩)∨∃ s∈p.decls.flatMap meF,∃ k,k < s.2∧x=⟨true,s.1,(k:Int)⟩:=by
 unfold ndP ndD;simp only[ez,eu,aaU,siN,meF,eh,tyF,siF];constructor
 ·rintro ⟨d,b,⟨k,a,rfl⟩ | ⟨s,c,k,a,rfl⟩⟩
  ·exact .inl ⟨_,⟨d,b,rfl⟩,k,a,rfl⟩
  ·exact .inr ⟨_,⟨d,b,s,c,rfl⟩,k,a,rfl⟩
 ·rintro (⟨_,⟨d,b,rfl⟩,k,a,rfl⟩ | ⟨_,⟨d,b,s,c,rfl⟩,k,a,rfl⟩)
  ·exact ⟨d,b,.inl ⟨k,a,rfl⟩⟩
  ·exact ⟨d,b,.inr ⟨s,c,k,a,rfl⟩⟩
theorem I5 (p:Prg) (x:Nd):x∈Bv p↔x∈ndP p:=by unfold Bv; rw[aaT]; exact (G9 ltNd (ndP p)).mem_iff
theorem HP (p:Prg):(Bv p).Nodup:=XV (Vr Eu.swo _)
def keyN (x:Nd):Str:=keyS x.name x.idx.toNat
theorem U7 (p:Prg) (h1:∀ s∈p.decls.map tyF,s.2≤65535) (h2:∀ s∈p.decls.flatMap meF,s.2≤65535):(Bv p).length=(Dd p).length + (De p).length:=by
 have o:=I5 p;have w:=HP p;have u:∀ x∈Bv p,∃ k:Nat,k < 65535∧x.idx=(k:Int):=fun x y=>by
  rw[o,Hg] at y;rcases y with ⟨s,d,k,c,rfl⟩ | ⟨s,d,k,c,rfl⟩
  ·exact ⟨k,by have:=h1 s d; omega,rfl⟩
  ·exact ⟨k,by have:=h2 s d; omega,rfl⟩
 have v:∀ a∈Bv p,∀ b∈Bv p,a.method=b.method→keyN a=keyN b→a=b:=fun a l b n A c=>by
  obtain ⟨i,C,r⟩:=u a l;obtain ⟨j,D,t⟩:=u b n;obtain ⟨B,z⟩:=ZO (by rw[r]; simp; omega) (by rw[t]; simp; omega) c;rw[r,t,gw,gw] at z;exact Nd.eq_iff.2 ⟨A,B,by rw[r,t,z]⟩
 rw[P3 (fun x:Nd=>!x.method)]
 congr 1
 ·refine Ub (f:=keyN) (w.filter _) (fun a l b n c=>?_) (Ln _ _ .nil) (fun x=>?_)
  ·obtain ⟨e,g⟩:=fS.1 l;obtain ⟨q,m⟩:=fS.1 n;exact v a e b q (by simp at g m; rw[g,m]) c
  ·unfold Dd;rw[Lm];constructor
   ·rintro (⟨s,d,k,c,rfl⟩ | h)
    ·exact ⟨⟨false,s.1,(k:Int)⟩,fS.2 ⟨(o _).2 ((Hg p _).2 (.inl ⟨s,d,k,c,rfl⟩)),rfl⟩,by simp[keyN]⟩
    ·cases h
   ·rintro ⟨a,l,rfl⟩;obtain ⟨e,g⟩:=fS.1 l;rw[o,Hg] at e;rcases e with ⟨s,d,k,c,rfl⟩ | ⟨s,d,k,c,rfl⟩
    ·exact .inl ⟨s,d,k,c,by simp[keyN]⟩
    ·cases g
 ·refine Ub (f:=keyN) (w.filter _) (fun a l b n c=>?_) (Ln _ _ .nil) (fun x=>?_)
  ·obtain ⟨e,g⟩:=fS.1 l;obtain ⟨q,m⟩:=fS.1 n;exact v a e b q (by simp at g m; rw[g,m]) c
  ·unfold De;rw[Lm];constructor
   ·rintro (⟨s,d,k,c,rfl⟩ | h)
    ·exact ⟨⟨true,s.1,(k:Int)⟩,fS.2 ⟨(o _).2 ((Hg p _).2 (.inr ⟨s,d,k,c,rfl⟩)),rfl⟩,by simp[keyN]⟩
    ·cases h
   ·rintro ⟨a,l,rfl⟩;obtain ⟨e,g⟩:=fS.1 l;rw[o,Hg] at e;rcases e with ⟨s,d,k,c,rfl⟩ | ⟨s,d,k,c,rfl⟩
    ·cases g
    ·exact .inl ⟨s,d,k,c,by simp[keyN]⟩
theorem Uc (p:Prg):(ndP p).length=((p.decls.map tyF).map (·.2)).sum + ((p.decls.flatMap meF).map (·.2)).sum:=by
 unfold ndP;induction p.decls with
 | nil=>rfl
 | cons d l ih =>
  have b:((d.sigs++[d.sig]).flatMap siN).length=((meF d).map (·.2)).sum:=by
   unfold meF;generalize d.sigs++[d.sig]=S;induction S with
   | nil=>rfl
   | cons s S c =>
    rw[eO,dQ,c,eM,eM,fV];have:(siN s).length=s.formals.length:=Ip _ _ _;rw[this]
    rfl
  have a:(ndD d).length=d.formals.length + ((meF d).map (·.2)).sum:=by unfold ndD; rw[dQ,Ip,b]
  rw[eO,dQ,ih,a];simp only[eM,fV,eO,eC,gK,tyF];omega
theorem Yr {p:Prg} (hw:wN (Bx p)≤600):(ndP p).length≤1200:=by
 have a:((p.decls.map tyF).map (·.2)).sum≤(p.decls.map (fun d=>wN (Bl d))).sum:=by
  rw[fB];exact Kl (fun d=>MF d) _
 have b:=QE p.decls;have c:=OJ p;rw[Uc];omega
theorem VN {l:List (Str × Nat)}:∀ {s:Str × Nat},s∈l→s.2≤(l.map (·.2)).sum:=by
 induction l with
 | nil=>intro s h; cases h
 | cons a l ih =>
  intro s h;rw[eM,fV];rcases eq.1 h with rfl | h
  ·omega
  ·have:=ih h;omega
theorem P4 {p:Prg} (hw:wN (Bx p)≤600):(Bv p).length=(Dd p).length + (De p).length:=by
 have h:=Yr hw;rw[Uc] at h;exact U7 p (fun s a=>by have:=VN a; omega) (fun s a=>by have:=VN a; omega)
theorem WP (p:Prg):(Bv p).length≤(ndP p).length:=by
 have a:=Vy (srt ltNd (ndP p)) (srt ltNd (ndP p)).length;rw[JV] at a;unfold Bv;rw[JV];exact a
theorem WQ {a b c:Nat} (h:a * b=c) (hc:c≤1000000) (ha:a≤1000000) (hb:b≤1000000):mulS (a:Int) (b:Int)=(c:Int):=by
 rw[Km (inN ha) (inN hb)];have e:(a:Int) * (b:Int)=(c:Int):=by rw[← h]; push_cast; rfl
 rw[e,if_neg (by omega)]
noncomputable abbrev kP (p:Prg):Nat:=(Dd p).length + (De p).length
theorem ML (p:Prg) (hp:smPr p) (hw:wN (Bx p)≤600) (g q:Nat):ACalls E 26 [AZ p,cntD p] [] g q (dN (hgt p (kP p))) []:=by
 have m:=Yr hw;have r:=WP p;have o:=QF hw;have j:=P4 hw;have k:=PZ (n:=(Bv p).length) hw (by omega);have l:=WQ (a:=dmax (tyPr p) 1) (b:=(Bv p).length + 2) (c:=hgt p (Bv p).length) rfl k (by omega) (by omega);have e:((Bv p).length:Int) + 2=(((Bv p).length + 2:Nat):Int):=by omega
 refine Ax 12 Tryz.call26 Tryz.func26 ?_;simp only[go_sem];refine Aa fun _ f=>Ac 3 fun _ _=>?_;simp only[go_sem,cntD,cV];refine f (Aa fun _ h=>AF 7 fun _ _ _ _ d i=>Av 3 d ?_);simp only[go_sem];refine AI d rfl rfl rfl (Tt p hp (by omega) _ _) (CoL.refl _) rfl ?_;refine Av 2 d ?_;simp only[go_sem,e];try simp (disch:=omega) only[Au]
 refine AI d rfl rfl rfl (D3 _ _ (inN (n:=dmax (tyPr p) 1) (by omega)) (inN (n:=(Bv p).length + 2) (by omega)) _ _) (CoL.refl _) rfl ?_;refine Ap 0 d ?_;simp only[go_sem,l];refine Ad 1 d ?_;simp only[go_sem];refine i (h (Ah (Ag ?_)));simp only[go_sem];exact Co.of_eq (by rw[j])
theorem RK {p:Prg} (_hp:smPr p) (hw:wN (Bx p)≤600):(tyPr p).length≤300000:=by
 have:=Qu p;omega
theorem Sl (p:Prg) (hp:smPr p) (hw:wN (Bx p)≤600) (g q:Nat):ACalls E 8 [AZ p] [] g q (dN (hgt p (kP p))) []:=by
 refine Ax 7 Tryz.call8 Tryz.func8 ?_;simp only[go_sem];refine Aa fun _ b=>Ac 2 fun _ _=>?_;simp only[go_sem];refine b (Aa fun _ c=>AF 4 fun _ _ _ _ a d=>Av 2 a ?_);simp only[go_sem];refine AI a rfl rfl rfl (MJ p hp (by omega) (RK hp hw) _ _) (CoL.refl _) rfl ?_;refine Aw a (ML p hp hw _ _) ?_;refine Ap 0 a ?_;simp only[go_sem];refine Ad 1 a ?_;simp only[go_sem];refine d (c (Ah (Ag ?_)));simp only[go_sem];exact Co.refl _
theorem Ys (p:Prg) (hp:smPr p) (hw:wN (Bx p)≤600) (g q:Nat) :
  ACalls E 11 [AZ p] [] g q (dI (ofV2 p ((exBR p.decls++AB p.main).foldl nmF []).length ((exBR p.decls++AB p.main).foldl tgF 0) (hgt p (kP p)))) []:=by
 have D:=Ik p;have C:=Il p;have B:kP p=(Dd p).length + (De p).length:=rfl;have x:=PZ (n:=kP p) hw (by omega);have A:=GT p.decls 0;have z:=QJ p;have y:=Yo hp;have i:inR ((p.decls.foldl dcF 0:Nat):Int):=inN (by have:=hp.1.1; omega);have j:p.decls.foldl foF 0≤1000000:=T8 _ _ _ (dX _) fun d v=>ef (hp.1.2 d v).2.1.1 (by omega);have u:(exBR p.decls++AB p.main).foldl tgF 0≤1000000:=by
  rw[T6];exact T5 _ _ _ (dX _) fun e w=>((Bd e).1 (y e w)).2.2.1.1
 have b:=Ko i (p.decls.foldl foF 0) (hgt p (kP p));have f:((exBR p.decls++AB p.main).foldl nmF []).length≤1000000:=by
  rw[VM _ (AB p.main++exBR p.decls) (fun e=>by simp only[eu]; exact Or.comm)];have:=EQ (AB p.main++exBR p.decls) [];simp only[eZ] at this;omega
 refine Ax 28 Tryz.call11 Tryz.func11 ?_;simp only[go_sem];refine Aa fun _ k=>Ac 2 fun _ _=>?_;simp only[go_sem];refine k (Aa fun _ l=>Am fun _ _ _ _ h r=>Af 1 h ?_);simp only[go_sem];refine AA h rfl rfl rfl (MJ p hp (by omega) (RK hp hw) _ _) (CoL.refl _) ?_;refine Ad 2 h ?_;simp only[go_sem,cntD,cV];refine r (l (Aa fun _ m=>AF 8 fun _ _ _ _ c s=>Av 6 c ?_));simp only[go_sem];refine AI c rfl rfl rfl (ML p hp hw _ _) (.cons (.refl _) (.cons (.refl _) .nil)) rfl ?_;refine Aw c (JM _ _ _ i j x _ _) ?_;refine Ap 0 c ?_;simp only[go_sem];refine Ad 1 c ?_;simp only[go_sem]
 refine s (m (Aa fun _ o=>AF 13 fun _ _ _ _ a t=>Av 5 a ?_));simp only[go_sem,abg];refine Aw a (D3 _ _ b (inN f) _ _) ?_;refine Av 1 a ?_;simp only[go_sem];refine Aw a (Gp _ _ b Cn _ _) ?_;refine Av 2 a ?_;simp only[go_sem];refine Aw a (Jw _ _ (CK b Cn) u _ _) ?_;refine Aw a (D3 _ _ (Df b (inN f)) (Dm (CK b Cn) _) _ _) ?_;refine Aw a (Gp _ _ b (Df (Df b (inN f)) (Dm (CK b Cn) _)) _ _) ?_;refine Ap 0 a ?_;simp only[go_sem];refine Ad 1 a ?_;simp only[go_sem];refine t (o (Ah (Ag ?_)));simp only[go_sem];exact Co.refl _
theorem N6:∀ e:Ex,BI e=true→∀ x∈AB e,BI x=true:=by
 refine Ex.ind fun e ih b x a=>?_;have d:=b;rw[DX,ej,eL] at b;rw[BC,BF] at a;rcases eq.1 a with rfl | a
 ·exact d
 ·obtain ⟨k,c,f⟩:=ez.1 a;exact ih k c (b.1 k c) x f
theorem P5 {e:Ex} (h:BI e=true):Dj e=true:=by
 rw[DX] at h;unfold GH at h;simp only[ej] at h;exact h.2.2.2
theorem P6 {e:Ex} (h:BI e=true) (h2:e.kind=2):e.kids≠[]:=by
 have a:=P5 h;unfold Dj at a;rw[if_neg (by omega),if_pos h2] at a;have:=of_decide_eq_true a;intro e0;rw[e0] at this;simp at this
theorem GU {p:Prg} (h:BY p=true) {d:Dec} (hd:d∈p.decls):Cd d=true:=by
 unfold BY at h;rw[ej,eL] at h;exact h.1 d hd
theorem N7 {d:Dec} (h:Cd d=true) (h3:d.kind=3):BI d.body=true∧d.formals=[]∧d.fields=[]∧d.sigs=[]∧DH d.sig=true:=by
 unfold Cd DQ at h;rw[if_pos h3] at h;unfold IQ at h;simp only[ej,decide_eq_true_eq] at h;obtain ⟨_,_,_,_,_,_,c,a,b⟩:=h;exact ⟨b,ex (by omega),ex (by omega),ex (by omega),a⟩
theorem Ud {p:Prg} (hw:wN (Bx p)≤600) {d:Dec} (hd:d∈p.decls) {s:Sig} (hs:s∈d.sigs∨s=d.sig):s.formals.length≤600∧s.params.length≤600:=by
 have b:=IR hd;have c:wN (AP s)≤wN (Bl d):=by
  unfold Bl;rw[AW,AW,AW,AW];rcases hs with hs | rfl
  ·have:wN (AP s)≤wN (d.sigs.flatMap AP):=by
    rw[Ej];exact Qt (fun a=>wN (AP a)) hs
   omega
  ·omega
 have e:=HF s;omega
theorem QL {p:Prg} (hs:smPr p) (hw:wN (Bx p)≤600) (hr:BY p=true):PrOk p:=by
 refine ⟨hs,fun d a=>⟨fun _ h=>?_,?_⟩,fun d a=>?_,fun d a=>?_,fun d a c x e b=>?_⟩
 ·have:=(Ud hw a (.inl h)).1; omega
 ·have:=(Ud hw a (.inr rfl)).1; omega
 ·have:=(Ud hw a (.inr rfl)).2; omega
 ·have f:=Jx d.body;have b:=IR a;unfold Bl at b;rw[AW] at b;omega
 ·exact P6 (N6 _ (N7 (GU hr a) c).1 x e) b
theorem P7 {p:Prg} (hr:BY p=true):BI p.main=true:=by
 unfold BY at hr;rw[ej] at hr;exact hr.2
theorem WR {p:Prg} (hw:wN (Bx p)≤600):(AB p.main).length≤1000000:=by
 have a:=Jx p.main;unfold Bx at hw;rw[AW] at hw;omega
theorem U8 {t:Ty} (h:count t 0≤60):(AO t).length≤60:=by
 have:=Im t 0 (by omega);omega
noncomputable def I6 (p:Prg):Bool:=decide (EH p≤600) && (BY p && (!(prg17 p true).bad && decide ((exL (edP p)).length=0)))
noncomputable abbrev ofR (p:Prg):Int:=ofV2 p ((alE p p.decls.length).foldl nmR []).length ((alE p p.decls.length).foldl tgF 0) (hgt p (kP p))
def Yt (p:Prg):Prop:=I6 p=true→∀ s,Fy p=some s→(∀ t∈s.types,Br t≤hgt p (kP p))∧(Bg s:Int)≤ofR p
set_option maxRecDepth 100000 in
set_option maxHeartbeats 1000000 in
theorem Ue (p:Prg) (hp:okPr p) (g d:Nat):ACalls E 5 [AZ p] [] g d (dN (I6 p).toNat) []:=by
 have b:I6 p=(decide (EH p≤600) && (BY p && (!(prg17 p true).bad && decide ((exL (edP p)).length=0)))):=rfl;refine Ax 19 Tryz.call5 Tryz.func5 ?_;simp only[go_sem];refine Aa fun _ s=>Ac 2 fun _ _=>?_;simp only[go_sem];refine s (Aa fun _ j=>Aa fun _ h=>Am fun _ _ _ _ a i=>Af 1 a ?_);simp only[go_sem];by_cases e:EH p≤600
 ·obtain ⟨f,_⟩:=Ol p e;have o:=Qs p e;rw[decide_eq_true e,gk] at b;refine Ak a (NC p hp _ _) ?_;refine Af 2 a ?_;simp only[go_sem,e];cases c:BY p with
  | false =>
   rw[c,fc] at b;refine AA a rfl rfl rfl (Ly p f (by omega) _ _) (CoL.refl _) ?_;refine Ad 11 a ?_;simp only[go_sem,c];refine i (h (Aj (Ae (j (Aa fun _ t=>Ac 1 fun m n=>?_)))));simp only[go_sem];refine t (Ah ?_);rw[b];refine Ag ?_;simp only[go_sem];exact Co.refl _
  | true =>
   rw[c,gk] at b;have r:=QL f o c;have q:=U0 p f r.fm r.pa true;refine AA a rfl rfl rfl (Ly p f (by omega) _ _) (CoL.refl _) ?_;refine Af 3 a ?_;simp only[go_sem,c];cases k:(prg17 p true).bad with
   | true =>
    rw[k,fQ,fc] at b;refine Ak a (q _ _) ?_;refine Ad 7 a ?_;simp only[go_sem,k];refine i (h (Aj (Ae (j (Aa fun _ u=>Ac 1 fun m n=>?_)))));simp only[go_sem];refine u (Ah ?_);rw[b];refine Ag ?_;simp only[go_sem];exact Co.refl _
   | false =>
    rw[k,f7,gk] at b;refine Ak a (q _ _) ?_;refine Af 5 a ?_;simp only[go_sem,k];by_cases l:(exL (edP p)).length=0
    ·rw[decide_eq_true l] at b;refine Ak a (NQ p f c o _ _) ?_;refine Ad 1 a ?_;simp only[go_sem,l];refine i (h (Al (Aa fun _ v=>Ac 1 fun _ _=>?_)));simp only[go_sem];refine v (Ah ?_);rw[b];refine Ag ?_;simp only[go_sem];exact Co.refl _
    ·rw[decide_eq_false l] at b;refine Ak a (NQ p f c o _ _) ?_;refine Ad 1 a ?_;simp only[go_sem,l];refine i (h (Aj (Ae (j (Aa fun _ w=>Ac 1 fun m n=>?_)))));simp only[go_sem];refine w (Ah ?_);rw[b];refine Ag ?_;simp only[go_sem];exact Co.refl _
 ·rw[decide_eq_false e,fc] at b;refine Ak a (NC p hp _ _) ?_;refine Ad 14 a ?_;simp only[go_sem,e];refine i (h (Aj (Ae (j (Aa fun _ x=>Ac 1 fun m n=>?_)))));simp only[go_sem];refine x (Ah ?_);rw[b];refine Ag ?_;simp only[go_sem];exact Co.refl _
end Go.Proofs.T
namespace Go.Ab.Cnt
open Go Go.Ab
mutual
def bare:Ty→Ty
 | .mk n a _=>.mk n (bares a) 0
def bares:List Ty→List Ty
 | []=>[]
 | t :: r=>bare t :: bares r
end
theorem I7:∀ l,bares l=l.map bare
 | []=>rfl
 | t :: r=>by rw[bares,I7 r]; rfl
def tups {α:Type} (L:List α):Nat→List (List α)
 | 0=>[[]]
 | a + 1=>[] :: L.flatMap fun x=>(tups L a).map (x :: ·)
theorem F0 {α β:Type} (f:α→List β) (n:Nat):∀ l:List α,(∀ x∈l,(f x).length=n)→(l.flatMap f).length=l.length * n
 | [],_=>by simp
 | x :: r,h=>by
  rw[eO,dQ,F0 f n r (fun y hy=>h y (ea _ hy)),h x dY,eB,fG,Nat.one_mul,gq]
theorem OM {α:Type} (L:List α):∀ a,(tups L a).length≤(L.length + 1) ^ a
 | 0=>by simp[tups]
 | a + 1=>by
  have ih:=OM L a;unfold tups;rw[eB,F0 _ (tups L a).length L (fun _ _=>by simp),Nat.pow_succ,iv,Nat.mul_one];have h1:1≤(L.length + 1) ^ a:=Nat.pos_of_ne_zero (by simp);have h2:L.length * (tups L a).length≤(L.length + 1) ^ a * L.length:=by
   rw[gf];exact fw _ ih
  omega
theorem ON {α:Type} {L:List α}:∀ {a:Nat} {x:List α},x.length≤a→(∀ y∈x,y∈L)→x∈tups L a
 | 0,x,h,_=>by
  rw[ex (im.1 h)];simp[tups]
 | a + 1,[],_,_=>by simp[tups]
 | a + 1,y :: r,h,hm=>by
  unfold tups;refine ea _ (ez.2 ⟨y,hm y dY,eh.2 ⟨r,ON (by simpa using h) (fun z hz=>hm z (ea _ hz)),rfl⟩⟩)
def univ (names:List Str) (A:Nat):Nat→List Ty
 | 0=>[]
 | k + 1=>names.flatMap fun n=>(tups (univ names A k) A).map fun a=>.mk n a 0
def cNum (D A:Nat):Nat→Nat
 | 0=>0
 | k + 1=>D * (cNum D A k + 1) ^ A
theorem OO (names:List Str) (A:Nat):∀ k,(univ names A k).length≤cNum names.length A k
 | 0=>ec _
 | k + 1=>by
  unfold univ cNum;rw[F0 _ (tups (univ names A k) A).length names (fun _ _=>by simp)];refine gY _ (ef (OM _ _) (Nat.pow_le_pow_left ?_ _));exact ij (OO names A k)
inductive Fit (names:List Str) (A:Nat):Nat→Ty→Prop
 | mk {k:Nat} {n:Str} {a:List Ty} {p:Int}:n∈names→a.length≤A→(∀ x∈a,Fit names A k x)→Fit names A (k + 1) (.mk n a p)
theorem Fit.mem {names:List Str} {A:Nat}:∀ {k:Nat} {t:Ty},Fit names A k t→bare t∈univ names A k:=by
 intro k t h;induction h with
 | @mk k n a p h1 h2 _ ih =>
  unfold univ bare;rw[I7];refine ez.2 ⟨n,h1,eh.2 ⟨a.map bare,ON (by simpa using h2) (fun _ c=>?_),rfl⟩⟩;obtain ⟨x,b,rfl⟩:=eh.1 c;exact ih x b
theorem nodup_le {α:Type}:∀ (l m:List α),l.Nodup→(∀ x∈l,x∈m)→l.length≤m.length
 | [],_,_,_=>dX _
 | x :: r,m,hn,hm=>by
  classical
  rw[fA] at hn;have hx:=hm x dY;have:=nodup_le r (m.erase x) hn.2 (fun y hy=>(List.mem_erase_of_ne (fun e:y=x=>hn.1 (by rw[← e]; exact hy))).2 (hm y (ea _ hy)));rw[List.length_erase_of_mem hx] at this;have:0 < m.length:=List.length_pos_of_mem hx;rw[eB];omega
theorem ZX {names:List Str} {A H:Nat} {l:List Ty} (hn:(l.map bare).Nodup) (hf:∀ t∈l,Fit names A H t):l.length≤cNum names.length A H:=by
 have:=nodup_le (l.map bare) (univ names A H) hn (fun _ b=>by
  obtain ⟨t,a,rfl⟩:=eh.1 b;exact (hf t a).mem)
 rw[ei] at this;exact ef this (OO names A H)
theorem ZY {names ms:List Str} {A B H:Nat} {l:List (Ty × Str × List Ty)} (hn:(l.map fun c=>(bare c.1,c.2.1,c.2.2.map bare)).Nodup) (h1:∀ c∈l,Fit names A H c.1) (h2:∀ c∈l,c.2.1∈ms) (h3:∀ c∈l,c.2.2.length≤B∧∀ t∈c.2.2,Fit names A H t) :
  l.length≤cNum names.length A H * ms.length * (cNum names.length A H + 1) ^ B:=by
 have d:=OO names A H;have e:((univ names A H).flatMap fun x=>ms.flatMap fun m=>(tups (univ names A H) B).map fun a=>(x,m,a)).length=(univ names A H).length * (ms.length * (tups (univ names A H) B).length) :=
  F0 _ _ _ fun x _=>F0 _ _ _ fun m _=>by simp
 have:=nodup_le (l.map fun c=>(bare c.1,c.2.1,c.2.2.map bare)) ((univ names A H).flatMap fun x=>ms.flatMap fun m=>(tups (univ names A H) B).map fun a=>(x,m,a)) hn (fun x g=>by
  obtain ⟨c,b,rfl⟩:=eh.1 g;refine ez.2 ⟨bare c.1,(h1 c b).mem,ez.2 ⟨c.2.1,h2 c b,eh.2 ⟨c.2.2.map bare,ON (by simpa using (h3 c b).1) (fun _ h=>?_),rfl⟩⟩⟩;obtain ⟨t,f,rfl⟩:=eh.1 h;exact ((h3 c b).2 t f).mem)
 rw[ei,e,← Nat.mul_assoc] at this;refine ef this (Nat.mul_le_mul (fw _ d) (ef (OM _ _) (Nat.pow_le_pow_left (ij d) _)))
end Go.Ab.Cnt
namespace Go.Proofs.T
open Go Go.Ab Go.RowKit
theorem Rch.trans {l:List Ed} {a b c:Nd} (h:Rch l a b) (k:Rch l b c):Rch l a c:=by
 induction k with
 | one e d=>exact .more (by rw[d]; exact h) e
 | more _ d ih=>exact .more ih d
def Str1 (l:List Ed) (m n:Nd):Prop:=∃ e∈l,e.ins=true∧(m=e.frm∨Rch l m e.frm)∧(e.to=n∨Rch l e.to n)
theorem Str1.next {l:List Ed} {m:Nd} {e:Ed} (he:e∈l) (h:Str1 l m e.frm):Str1 l m e.to:=by
 obtain ⟨x,b,c,d,a⟩:=h;refine ⟨x,b,c,d,.inr ?_⟩;rcases a with a | a
 ·exact .one he a.symm
 ·exact .more a he
theorem Str1.no {l:List Ed} (hx:exL l=[]) (n:Nd):¬ Str1 l n n:=by
 rintro ⟨e,c,d,a,b⟩;unfold exL at hx;rw[List.filter_eq_nil_iff] at hx;refine hx e c ?_;unfold exB;rw[ej,fW,Yb,Qy];refine ⟨d,?_⟩;rcases b with b | b <;> rcases a with a | a
 ·exact .inr (b.trans a)
 ·exact .inl (by rw[b]; exact a)
 ·exact .inl (by rw[← a]; exact b)
 ·exact .inl (b.trans a)
open Classical in
noncomputable def rank (V:List Nd) (l:List Ed) (n:Nd):Nat:=(V.filter fun m=>decide (Str1 l m n)).length
theorem abi (V:List Nd) (l:List Ed) (n:Nd):rank V l n≤V.length:=ie _ _
open Classical in
theorem Yu {V:List Nd} {l:List Ed} (hV:V.Nodup) {e:Ed} (he:e∈l):rank V l e.frm≤rank V l e.to:=by
 unfold rank;refine Cnt.nodup_le _ _ (hV.filter _) fun _ a=>?_;rw[fS,decide_eq_true_eq] at a ⊢;exact ⟨a.1,a.2.next he⟩
open Classical in
theorem abj {V:List Nd} {l:List Ed} (hV:V.Nodup) (hx:exL l=[]) {e:Ed} (he:e∈l) (hi:e.ins=true) (hf:e.frm∈V):rank V l e.frm + 1≤rank V l e.to:=by
 have:=Cnt.nodup_le (e.frm :: V.filter fun m=>decide (Str1 l m e.frm)) (V.filter fun m=>decide (Str1 l m e.to)) (by
  rw[fA];refine ⟨fun h=>?_,hV.filter _⟩;rw[fS,decide_eq_true_eq] at h;exact Str1.no hx _ h.2) (fun _ a=>by
  rw[fS,decide_eq_true_eq];rcases eq.1 a with rfl | a
  ·exact ⟨hf,e,he,hi,.inl rfl,.inl rfl⟩
  ·rw[fS,decide_eq_true_eq] at a;exact ⟨a.1,a.2.next he⟩)
 simpa [rank] using this
end Go.Proofs.T
