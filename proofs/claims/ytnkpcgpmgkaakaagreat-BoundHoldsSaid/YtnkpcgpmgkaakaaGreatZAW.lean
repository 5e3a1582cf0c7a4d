/- A part of the proof: ZAW. -/
import Derived.Test.YtnkpcgpmgkaakaaGreatZAV
namespace Go.Proofs.T
open Go Go.Ab Go.RowKit
set_option maxRecDepth 100000 in
set_option maxHeartbeats 4000000 in
theorem Sg (p:Prg) (hp:PrOk p) (s:ISet) (hs:IOk s) (hst0:∀ t∈s.types,t.args.length≤2000) (hsc:∀ c∈s.calls,c.targs.length≤2000) (g d:Nat):ACalls E 23 [AZ p,Ey s] [] g d (Ey (Eb p s)) []:=by
 have cM:=hs.tl;have bb:=hs.cl;have cL:=hp.sm.1.1;have cx:Eb p s=s.types.foldl (FL p s.calls) s:=rfl;refine Ax 137 Tryz.call23 Tryz.func23 ?_;simp only[go_sem];refine Aa fun _ bE=>Ac 3 fun l _=>?_;simp only[go_sem];refine bE (Aa fun _ bK=>Ac 3 fun D cf=>?_);simp only[go_sem];refine bK (Aa fun _ bT=>Aa fun _ c1=>?_);have a:D≠l:=Ar cf 2 0 (by simp[go_sem]);refine Ac 1 fun _ _=>?_;simp only[go_sem];refine c1 (Ai ?_)
 refine Ay (fun m B=>∃ k,k≤s.types.length∧m=s.types.length - k∧Le { env:=[(2,.ptr ⟨l,2,0⟩ 0),(3,.ptr ⟨l,3,0⟩ 0),(4,.ptr ⟨l,4,0⟩ 0),(5,.ptr ⟨D,5,0⟩ 0),(6,dN k)],σ:=[(⟨l,2,0⟩,.box 30 (prC p)),(⟨l,3,0⟩,.box 35 (isC s)),(⟨l,4,0⟩,.box 35 zIS),(⟨D,5,0⟩,.box 35 (isC ((s.types.take k).foldl (FL p s.calls) s)))] } B) s.types.length ?_ ?_
 ·refine ⟨0,dX _,rfl,Ao ?_⟩;simp only[go_sem,zIS,a,a.symm];all_goals first|trivial|omega
 ·rintro m B ⟨k,hk,rfl,A⟩;refine Az A ?_;clear A;have bh:=EN (f:=FL p s.calls) (s.types.take k) s hs fun o x hx T=>TT hp hs.cs T (hs.ts x (ff hx));refine Aa fun _ c8=>Aa fun _ b7=>?_;by_cases a7:k < s.types.length
  ·have ar:=DY (FL p s.calls) s.types k a7 s;have cu:=getM (f:=AC) a7;have bk:=dP a7;have P:=hs.ts _ bk;have cJ:=hst0 _ bk;generalize (s.types.take k).foldl (FL p s.calls) s=I at *;generalize s.types[k]=X at *;have bj:FL p s.calls I X=s.calls.foldl (CP p X (Bq p [] X)) (GQ p I X):=rfl;rw[bj] at ar;clear bj;have bi:=GF p hp.sm [] (by simp) (fun _ hh=>nomatch hh) X P;obtain ⟨l1,l2⟩:=Ha (env:=[]) hp.sm (fun _ hh=>nomatch hh) P;generalize Bq p [] X=SE at *;have bg:=CU p X 1 hp.sm.1.1;have az:=RE hp.sm bh P;have aB:GQ p I X=if BN p X 1=true then (fldX p X).foldl putF I else I:=rfl
   refine Ac 5 fun g3 cq=>?_;simp only[go_sem,a7,a,zIS];refine b7 (Al (Ae (c8 (Aa fun _ b8=>Ai (Aa fun _ cc=>Ac 7 fun J be=>?_)))));simp only[go_sem,cu,a];refine cc (Aa fun _ b9=>Aa fun _ aZ=>?_);have b:J≠l:=Ar be 2 0 (by simp[go_sem]);have e:J≠D:=Ar be 5 0 (by simp[go_sem,a.symm]);refine Am fun _ _ _ _ an ba=>Af 2 an ?_;simp only[go_sem,a,b,b.symm,e.symm];cases al:BN p X 1 with
   | false =>
    rw[if_neg (by simp[al])] at aB;rw[aB] at ar az;refine Ak an (bg _ _) ?_;refine Ad 0 an ?_;simp only[go_sem,al];refine ba (aZ (Aj (Ae (b9 (Aa fun _ bF=>Am fun br cg cA bl a9 aH=>Af 2 a9 ?_)))));simp only[go_sem,a,b,b.symm,e.symm];refine AA a9 rfl rfl rfl (bi _ _) (.cons (.refl _) (.cons (.nil _) (.cons (.refl _) .nil))) ?_;refine Ad 1 a9 ?_;simp only[go_sem];refine aH (bF (Aa fun _ bG=>Ac 1 fun bs ch=>?_));simp only[go_sem];refine bG (Ai ?_)
    refine Ay (fun m B=>∃ j,j≤s.calls.length∧m=s.calls.length - j∧Le { env:=[(2,.ptr ⟨l,2,0⟩ 0),(3,.ptr ⟨l,3,0⟩ 0),(4,.ptr ⟨l,4,0⟩ 0),(5,.ptr ⟨D,5,0⟩ 0),(6,dN k),(7,.ptr ⟨J,7,0⟩ 0),(10,slSi SE),(11,dN j)],σ:=[(⟨l,2,0⟩,.box 30 (prC p)),(⟨l,3,0⟩,.box 35 (isC s)),(⟨l,4,0⟩,.box 35 zIS),(⟨D,5,0⟩,.box 35 (isC ((s.calls.take j).foldl (CP p X SE) I))),(⟨J,7,0⟩,.box 25 (tyC X))] } B) s.calls.length ?_ ?_
    ·refine ⟨0,dX _,rfl,Ao ?_⟩;simp only[go_sem,a,a.symm,zIS,b,b.symm,e,e.symm,tyC];all_goals first|trivial|omega
    ·rintro m B ⟨j,hj,rfl,A⟩;refine Az A ?_;clear A;have aT:=EN (f:=CP p X SE) (s.calls.take j) I az fun o c hc T=>Lj hp P l2 T (hs.cs c (ff hc));refine Aa fun _ bH=>Aa fun _ b0=>?_;by_cases y:j < s.calls.length
     ·have v:=DY (CP p X SE) s.calls j y I;have aQ:=getM (f:=E8) y;have ah:=dP y;have G:=hs.cs _ ah;have bb:=hsc _ ah;generalize (s.calls.take j).foldl (CP p X SE) I=O at *;generalize s.calls[j]=C at *;have ad:=Fl SE C.name (by omega);have ao:CP p X SE O C=match CL SE C.name with
        | none=>O
        | some n=>if (SE.getD n Bw).formals.length≠C.targs.length then O else if Dr p [] X C.on=true then FZ p X (SE.getD n Bw) O C else O:=rfl
      rw[ao] at v;clear ao;refine Ac 5 fun aD aO=>?_;simp only[go_sem,y,a,zIS,b,tyC];refine b0 (Al (Ae (bH (Aa fun _ ax=>Ai (Aa fun _ bI=>Ac 7 fun N a4=>?_)))));simp only[go_sem,aQ,a,b];refine bI (Aa fun _ b1=>?_);have r:N≠l:=Ar a4 2 0 (by simp[go_sem]);have h:N≠D:=Ar a4 5 0 (by simp[go_sem,a.symm]);have u:N≠J:=Ar a4 7 0 (by simp[go_sem,b.symm,e.symm]);refine Am fun bt ci cB bm U ag=>Af 3 U ?_;simp only[go_sem,r.symm,h.symm,u.symm];cases R:CL SE C.name with
      | none =>
       rw[R] at v;simp only at v;have h0:((-1:Int) < 0)=True:=eq_true (by decide);refine Ak U (ad _ _) ?_;refine Ad 1 U ?_;simp only[go_sem,R,optI];refine ag (b1 (Aa fun _ _=>Aa fun _ bJ=>AE fun af ai au ae z K=>Ap 22 z ?_));simp only[go_sem,h0];refine K (bJ (Al (Aq (ax (Ac 3 fun a2 a3=>?_)))));simp only[go_sem,zIS,tyC];try simp (disch:=omega) only[Au]
       refine ⟨_,?_,j + 1,y,rfl,Ao ?_⟩
       ·omega
       simp only[go_sem,v,a,a.symm,b,b.symm,e,e.symm,r,h,u];all_goals first|trivial|omega
      | some n =>
       rw[R] at v;simp only at v;have hn:=Gn R;have H:=getM (f:=AH) hn;have aR:SE.getD n Bw=SE[n]:=by rw[fl,dO hn]; rfl
       rw[aR] at v;have aW:=l2 _ (dP hn);generalize SE[n]=S at *;have h0:((n:Int) < 0)=False:=eq_false (by omega);refine Ak U (ad _ _) ?_;refine Ad 1 U ?_;simp only[go_sem,R,optI];refine ag (b1 (Aa fun _ bL=>Aa fun _ aF=>?_));by_cases hl:S.formals.length=C.targs.length
       ·rw[if_neg (by simp[hl])] at v;have a6:(S.formals.length:Int)=(C.targs.length:Int):=by omega
        have ak:=EK p hp.sm [] (by simp) (fun _ hh=>nomatch hh) X C.on P G.1;refine AE fun af ai au ae z K=>Av 19 z ?_;simp only[go_sem,h0,H,AH,a6,a,b,b.symm,e.symm,r,r.symm,h.symm,u,u.symm];cases Y:Dr p [] X C.on with
        | false =>
         rw[if_neg (by simp[Y])] at v;refine AI z rfl rfl rfl (ak _ _) (.cons (.refl _) (.cons (.nil _) (.cons (.refl _) (.cons (.refl _) .nil)))) rfl ?_;refine Ap 2 z ?_;simp only[go_sem,Y];refine K (aF (Al (Aq (ax (Ac 3 fun a2 a3=>?_)))));simp only[go_sem,zIS,tyC];try simp (disch:=omega) only[Au]
         refine ⟨_,?_,j + 1,y,rfl,Ao ?_⟩
         ·omega
         simp only[go_sem,v,a,a.symm,b,b.symm,e,e.symm,r,h,u];all_goals first|trivial|omega
        | true =>
         rw[if_pos Y] at v;obtain ⟨q1,⟨q2,q3⟩,⟨q4,q5⟩,q6⟩:=aW;have aS:=BA S.formals q2;have aq:=fun t ht=>BB (S.formals.map (·.name)) C.targs (by rw[ei]; omega) G.2.2.2 t ht;have ap:FZ p X S O C=bdOf p (putT (S.params.foldl (putP S C.targs) O) (AD (S.formals.map (·.name)) C.targs S.result)) X C:=rfl;rw[ap] at v;clear ap;refine AI z rfl rfl rfl (ak _ _) (.cons (.refl _) (.cons (.nil _) (.cons (.refl _) (.cons (.refl _) .nil)))) rfl ?_;refine Ap 2 z ?_;simp only[go_sem,Y];refine K (aF (Aj (Ae (bL (Aa fun _ bM=>Am fun bu cj cC bn aa aI=>Af 5 aa ?_)))));simp only[go_sem,H,AH]
         refine Ak aa (aS _ _) ?_;refine Ad 1 aa ?_;simp only[go_sem];refine aI (bM (Aa fun _ bN=>Aa fun _ bO=>Ac 1 fun bv ck=>?_));simp only[go_sem];refine bO (Ai ?_)
         refine Ay (fun m B=>∃ i,i≤S.params.length∧m=S.params.length - i∧Le { env:=[(2,.ptr ⟨l,2,0⟩ 0),(3,.ptr ⟨l,3,0⟩ 0),(4,.ptr ⟨l,4,0⟩ 0),(5,.ptr ⟨D,5,0⟩ 0),(6,dN k),(7,.ptr ⟨J,7,0⟩ 0),(10,slSi SE),(11,dN j),(12,.ptr ⟨N,12,0⟩ 0),(13,dN n),(14,slS (S.formals.map (·.name))),(15,dN i)],σ:=[(⟨l,2,0⟩,.box 30 (prC p)),(⟨l,3,0⟩,.box 35 (isC s)),(⟨l,4,0⟩,.box 35 zIS),(⟨D,5,0⟩,.box 35 (isC ((S.params.take i).foldl (putP S C.targs) O))),(⟨J,7,0⟩,.box 25 (tyC X)),(⟨N,12,0⟩,.box 79 (calC C))] } B) S.params.length ?_ ?_
         ·refine ⟨0,dX _,rfl,Ao ?_⟩;simp only[go_sem,a,a.symm,zIS,b,b.symm,e,e.symm,tyC,r,r.symm,h,h.symm,u,u.symm];all_goals first|trivial|omega
         ·rintro m B ⟨i,bf,rfl,A⟩;refine Az A ?_;clear A;have Z:=EN (f:=putP S C.targs) (S.params.take i) O aT fun o q L T=>T.putT (Bp G.2.2.2 _ (q5 q (ff L)).2);refine Aa fun _ bP=>Aa fun _ b2=>?_;by_cases w:i < S.params.length
          ·have a1:=DY (putP S C.targs) S.params i w O;have aj:=getM (f:=Bt) w;have L:=(q5 _ (dP w)).2;generalize (S.params.take i).foldl (putP S C.targs) O=M at *;generalize S.params[i]=Q at *;change _=putT M (AD (S.formals.map (·.name)) C.targs Q.type) at a1;have a0:=E5 M (by have:=Z.tl; omega) (AD (S.formals.map (·.name)) C.targs Q.type) (Bp G.2.2.2 _ L);refine Ac 8 fun aE aP=>?_;simp only[go_sem,H,AH,w,zIS,tyC];refine b2 (Al (Ae (bP (Aa fun _ bQ=>Ai (AF 15 fun bx cn cD bo V aJ=>Av 13 V ?_)))));simp only[go_sem,H,AH,aj,a.symm,e,r.symm,h,h.symm,u.symm]
           refine Aw V (aq _ L _ _) ?_;refine Aw V (a0 _ _) ?_;refine Ap 0 V ?_;simp only[go_sem];refine Ad 1 V ?_;simp only[go_sem,a.symm,e,h];refine aJ (bQ (Ac 3 fun bw cm=>?_));simp only[go_sem,zIS,tyC];try simp (disch:=omega) only[Au]
           refine ⟨_,?_,i + 1,w,rfl,Ao ?_⟩
           ·omega
           simp only[go_sem,a1,a,a.symm,b,b.symm,e,e.symm,r,r.symm,h,h.symm,u,u.symm];all_goals first|trivial|omega
          ·have:i=S.params.length:=by omega
           subst this;rw[eo] at *;generalize S.params.foldl (putP S C.targs) O=M at *;have a0:=E5 M (by have:=Z.tl; omega) (AD (S.formals.map (·.name)) C.targs S.result) (Bp G.2.2.2 _ q6);have aU:=IOk.putT Z (Bp (ns:=S.formals.map (·.name)) G.2.2.2 _ q6);have aM:=MC p hp.sm hp.fm hp.pa hp.nb hp.kb _ aU X P C G (by omega) (by omega);refine Ac 8 fun aE aP=>?_;simp only[go_sem,H,AH,w,zIS,tyC];refine b2 (Aj (Aq (bN (Aa fun _ bR=>AF 11 fun bz co cE bp W aK=>Av 9 W ?_))));simp only[go_sem,H,AH,a.symm,e,r.symm,h,h.symm,u.symm];refine Aw W (aq _ q6 _ _) ?_
           refine Aw W (a0 _ _) ?_;refine Ap 0 W ?_;simp only[go_sem];refine Ad 1 W ?_;simp only[go_sem,a.symm,e,h];refine aK (bR (Am fun bA cp cF bq ab aL=>Af 4 ab ?_));simp only[go_sem,a,a.symm,b,b.symm,e,e.symm,r,r.symm,h,h.symm,u,u.symm];refine Ak ab (aM _ _) ?_;refine Ad 1 ab ?_;simp only[go_sem,a.symm,e,h];refine aL (ax (Ac 3 fun a2 a3=>?_));simp only[go_sem,zIS,tyC];try simp (disch:=omega) only[Au]
           refine ⟨_,?_,j + 1,y,rfl,Ao ?_⟩
           ·omega
           simp only[go_sem,v,a,a.symm,b,b.symm,e,e.symm,r,h,u];all_goals first|trivial|omega
       ·rw[if_pos hl] at v;have a6:¬ (S.formals.length:Int)=(C.targs.length:Int):=by omega
        refine AE fun af ai au ae z K=>Ap 22 z ?_;simp only[go_sem,h0,H,AH,a6,r.symm,h.symm,u.symm];refine K (aF (Al (Aq (ax (Ac 3 fun a2 a3=>?_)))));simp only[go_sem,zIS,tyC];try simp (disch:=omega) only[Au]
        refine ⟨_,?_,j + 1,y,rfl,Ao ?_⟩
        ·omega
        simp only[go_sem,v,a,a.symm,b,b.symm,e,e.symm,r,h,u];all_goals first|trivial|omega
     ·have:j=s.calls.length:=by omega
      subst this;rw[eo] at *;refine Ac 5 fun aD aO=>?_;simp only[go_sem,y,a,zIS,b,tyC];refine b0 (Aj (Aq (b8 (Ac 3 fun g4 cr=>?_))));simp only[go_sem,zIS];try simp (disch:=omega) only[Au]
      refine ⟨_,?_,k + 1,a7,rfl,Ao ?_⟩
      ·omega
      simp only[go_sem,ar,a,a.symm,b,e];all_goals first|trivial|omega
   | true =>
    rw[if_pos al] at aB;rw[aB] at ar az;obtain ⟨jj,cw⟩:=My (by decide) al;have bc:=GA p hp.sm X P jj cw;change ∀ g d,ACalls E _ _ _ g d (slPa (fldX p X)) _ at bc;have bd:=Kg hp.sm P;have ad:=OE hp.sm X;generalize fldX p X=F at *;refine Ak an (bg _ _) ?_;refine Ad 0 an ?_;simp only[go_sem,al];refine ba (aZ (Al (Aa fun _ bS=>Am fun _ _ _ _ aV ce=>Af 2 aV ?_)));simp only[go_sem,a,b,b.symm,e.symm];refine Ak aV (bc _ _) ?_;refine Ad 1 aV ?_;simp only[go_sem];refine ce (bS (Aa fun _ bU=>Ac 1 fun _ _=>?_));simp only[go_sem];refine bU (Ai ?_)
    refine Ay (fun m B=>∃ i,i≤F.length∧m=F.length - i∧Le { env:=[(2,.ptr ⟨l,2,0⟩ 0),(3,.ptr ⟨l,3,0⟩ 0),(4,.ptr ⟨l,4,0⟩ 0),(5,.ptr ⟨D,5,0⟩ 0),(6,dN k),(7,.ptr ⟨J,7,0⟩ 0),(8,slPa F),(9,dN i)],σ:=[(⟨l,2,0⟩,.box 30 (prC p)),(⟨l,3,0⟩,.box 35 (isC s)),(⟨l,4,0⟩,.box 35 zIS),(⟨D,5,0⟩,.box 35 (isC ((F.take i).foldl putF I))),(⟨J,7,0⟩,.box 25 (tyC X))] } B) F.length ?_ ?_
    ·refine ⟨0,dX _,rfl,Ao ?_⟩;simp only[go_sem,a,a.symm,zIS,b,b.symm,e,e.symm,tyC];all_goals first|trivial|omega
    ·rintro m B ⟨i,bf,rfl,A⟩;refine Az A ?_;clear A;have Z:=EN (f:=putF) (F.take i) I bh fun o q L T=>T.putT (bd q (ff L)).2;refine Aa fun _ bV=>Aa fun _ b3=>?_;by_cases w:i < F.length
     ·have a1:=DY putF F i w I;have aj:=getM (f:=Bt) w;have L:=(bd _ (dP w)).2;generalize (F.take i).foldl putF I=M at *;generalize F[i]=Q at *;change _=putT M Q.type at a1;have a0:=E5 M (by have:=Z.tl; omega) Q.type L;refine Ac 4 fun g9 ct=>?_;simp only[go_sem,w,zIS,tyC];refine b3 (Al (Ae (bV (Aa fun _ bW=>Ai (AF 7 fun _ _ _ _ aA cd=>Av 6 aA ?_)))));simp only[go_sem,aj,a.symm,e];refine Aw aA (a0 _ _) ?_;refine Ap 0 aA ?_;simp only[go_sem];refine Ad 1 aA ?_;simp only[go_sem,a.symm,e];refine cd (bW (Ac 3 fun _ _=>?_));simp only[go_sem,zIS,tyC]
      try simp (disch:=omega) only[Au]
      refine ⟨_,?_,i + 1,w,rfl,Ao ?_⟩
      ·omega
      simp only[go_sem,a1,a,a.symm,b,b.symm,e,e.symm];all_goals first|trivial|omega
     ·have:i=F.length:=by omega
      subst this;rw[eo] at *;generalize F.foldl putF I=O3 at *;refine Ac 4 fun g9 ct=>?_;simp only[go_sem,w,zIS,tyC];refine b3 (Aj (Aq (b9 (Aa fun _ bX=>Am fun br cg cA bl a9 aH=>Af 2 a9 ?_))));simp only[go_sem,a,b,b.symm,e.symm];refine AA a9 rfl rfl rfl (bi _ _) (.cons (.refl _) (.cons (.nil _) (.cons (.refl _) .nil))) ?_;refine Ad 1 a9 ?_;simp only[go_sem];refine aH (bX (Aa fun _ bY=>Ac 1 fun bs ch=>?_));simp only[go_sem];refine bY (Ai ?_)
      refine Ay (fun m B=>∃ j,j≤s.calls.length∧m=s.calls.length - j∧Le { env:=[(2,.ptr ⟨l,2,0⟩ 0),(3,.ptr ⟨l,3,0⟩ 0),(4,.ptr ⟨l,4,0⟩ 0),(5,.ptr ⟨D,5,0⟩ 0),(6,dN k),(7,.ptr ⟨J,7,0⟩ 0),(10,slSi SE),(11,dN j)],σ:=[(⟨l,2,0⟩,.box 30 (prC p)),(⟨l,3,0⟩,.box 35 (isC s)),(⟨l,4,0⟩,.box 35 zIS),(⟨D,5,0⟩,.box 35 (isC ((s.calls.take j).foldl (CP p X SE) O3))),(⟨J,7,0⟩,.box 25 (tyC X))] } B) s.calls.length ?_ ?_
      ·refine ⟨0,dX _,rfl,Ao ?_⟩;simp only[go_sem,a,a.symm,zIS,b,b.symm,e,e.symm,tyC];all_goals first|trivial|omega
      ·rintro m B ⟨j,hj,rfl,A⟩;refine Az A ?_;clear A;have aT:=EN (f:=CP p X SE) (s.calls.take j) O3 az fun o c hc T=>Lj hp P l2 T (hs.cs c (ff hc));refine Aa fun _ bZ=>Aa fun _ b4=>?_;by_cases y:j < s.calls.length
       ·have v:=DY (CP p X SE) s.calls j y O3;have aQ:=getM (f:=E8) y;have ah:=dP y;have G:=hs.cs _ ah;have bb:=hsc _ ah;generalize (s.calls.take j).foldl (CP p X SE) O3=O at *;generalize s.calls[j]=C at *;have ad:=Fl SE C.name (by omega);have ao:CP p X SE O C=match CL SE C.name with
          | none=>O
          | some n=>if (SE.getD n Bw).formals.length≠C.targs.length then O else if Dr p [] X C.on=true then FZ p X (SE.getD n Bw) O C else O:=rfl
        rw[ao] at v;clear ao;refine Ac 5 fun aD aO=>?_;simp only[go_sem,y,a,zIS,b,tyC];refine b4 (Al (Ae (bZ (Aa fun _ ay=>Ai (Aa fun _ c0=>Ac 7 fun N a4=>?_)))));simp only[go_sem,aQ,a,b];refine c0 (Aa fun _ b5=>?_);have r:N≠l:=Ar a4 2 0 (by simp[go_sem]);have h:N≠D:=Ar a4 5 0 (by simp[go_sem,a.symm]);have u:N≠J:=Ar a4 7 0 (by simp[go_sem,b.symm,e.symm]);refine Am fun bt ci cB bm U ag=>Af 3 U ?_;simp only[go_sem,r.symm,h.symm,u.symm];cases R:CL SE C.name with
        | none =>
         rw[R] at v;simp only at v;have h0:((-1:Int) < 0)=True:=eq_true (by decide);refine Ak U (ad _ _) ?_;refine Ad 1 U ?_;simp only[go_sem,R,optI];refine ag (b5 (Aa fun _ _=>Aa fun _ c2=>AE fun af ai au ae z K=>Ap 22 z ?_));simp only[go_sem,h0];refine K (c2 (Al (Aq (ay (Ac 3 fun a2 a3=>?_)))));simp only[go_sem,zIS,tyC];try simp (disch:=omega) only[Au]
         refine ⟨_,?_,j + 1,y,rfl,Ao ?_⟩
         ·omega
         simp only[go_sem,v,a,a.symm,b,b.symm,e,e.symm,r,h,u];all_goals first|trivial|omega
        | some n =>
         rw[R] at v;simp only at v;have hn:=Gn R;have H:=getM (f:=AH) hn;have aR:SE.getD n Bw=SE[n]:=by rw[fl,dO hn]; rfl
         rw[aR] at v;have aW:=l2 _ (dP hn);generalize SE[n]=S at *;have h0:((n:Int) < 0)=False:=eq_false (by omega);refine Ak U (ad _ _) ?_;refine Ad 1 U ?_;simp only[go_sem,R,optI];refine ag (b5 (Aa fun _ c3=>Aa fun _ aG=>?_));by_cases hl:S.formals.length=C.targs.length
         ·rw[if_neg (by simp[hl])] at v;have a6:(S.formals.length:Int)=(C.targs.length:Int):=by omega
          have ak:=EK p hp.sm [] (by simp) (fun _ hh=>nomatch hh) X C.on P G.1;refine AE fun af ai au ae z K=>Av 19 z ?_;simp only[go_sem,h0,H,AH,a6,a,b,b.symm,e.symm,r,r.symm,h.symm,u,u.symm];cases Y:Dr p [] X C.on with
          | false =>
           rw[if_neg (by simp[Y])] at v;refine AI z rfl rfl rfl (ak _ _) (.cons (.refl _) (.cons (.nil _) (.cons (.refl _) (.cons (.refl _) .nil)))) rfl ?_;refine Ap 2 z ?_;simp only[go_sem,Y];refine K (aG (Al (Aq (ay (Ac 3 fun a2 a3=>?_)))));simp only[go_sem,zIS,tyC];try simp (disch:=omega) only[Au]
           refine ⟨_,?_,j + 1,y,rfl,Ao ?_⟩
           ·omega
           simp only[go_sem,v,a,a.symm,b,b.symm,e,e.symm,r,h,u];all_goals first|trivial|omega
          | true =>
           rw[if_pos Y] at v;obtain ⟨q1,⟨q2,q3⟩,⟨q4,q5⟩,q6⟩:=aW;have aS:=BA S.formals q2;have aq:=fun t ht=>BB (S.formals.map (·.name)) C.targs (by rw[ei]; omega) G.2.2.2 t ht;have ap:FZ p X S O C=bdOf p (putT (S.params.foldl (putP S C.targs) O) (AD (S.formals.map (·.name)) C.targs S.result)) X C:=rfl;rw[ap] at v;clear ap;refine AI z rfl rfl rfl (ak _ _) (.cons (.refl _) (.cons (.nil _) (.cons (.refl _) (.cons (.refl _) .nil)))) rfl ?_;refine Ap 2 z ?_;simp only[go_sem,Y];refine K (aG (Aj (Ae (c3 (Aa fun _ c4=>Am fun bu cj cC bn aa aI=>Af 5 aa ?_)))));simp only[go_sem,H,AH]
           refine Ak aa (aS _ _) ?_;refine Ad 1 aa ?_;simp only[go_sem];refine aI (c4 (Aa fun _ c5=>Aa fun _ c6=>Ac 1 fun bv ck=>?_));simp only[go_sem];refine c6 (Ai ?_)
           refine Ay (fun m B=>∃ i,i≤S.params.length∧m=S.params.length - i∧Le { env:=[(2,.ptr ⟨l,2,0⟩ 0),(3,.ptr ⟨l,3,0⟩ 0),(4,.ptr ⟨l,4,0⟩ 0),(5,.ptr ⟨D,5,0⟩ 0),(6,dN k),(7,.ptr ⟨J,7,0⟩ 0),(10,slSi SE),(11,dN j),(12,.ptr ⟨N,12,0⟩ 0),(13,dN n),(14,slS (S.formals.map (·.name))),(15,dN i)],σ:=[(⟨l,2,0⟩,.box 30 (prC p)),(⟨l,3,0⟩,.box 35 (isC s)),(⟨l,4,0⟩,.box 35 zIS),(⟨D,5,0⟩,.box 35 (isC ((S.params.take i).foldl (putP S C.targs) O))),(⟨J,7,0⟩,.box 25 (tyC X)),(⟨N,12,0⟩,.box 79 (calC C))] } B) S.params.length ?_ ?_
           ·refine ⟨0,dX _,rfl,Ao ?_⟩;simp only[go_sem,a,a.symm,zIS,b,b.symm,e,e.symm,tyC,r,r.symm,h,h.symm,u,u.symm];all_goals first|trivial|omega
           ·rintro m B ⟨i,bf,rfl,A⟩;refine Az A ?_;clear A;have Z:=EN (f:=putP S C.targs) (S.params.take i) O aT fun o q L T=>T.putT (Bp G.2.2.2 _ (q5 q (ff L)).2);refine Aa fun _ c7=>Aa fun _ b6=>?_;by_cases w:i < S.params.length
            ·have a1:=DY (putP S C.targs) S.params i w O;have aj:=getM (f:=Bt) w;have L:=(q5 _ (dP w)).2;generalize (S.params.take i).foldl (putP S C.targs) O=M at *;generalize S.params[i]=Q at *;change _=putT M (AD (S.formals.map (·.name)) C.targs Q.type) at a1;have a0:=E5 M (by have:=Z.tl; omega) (AD (S.formals.map (·.name)) C.targs Q.type) (Bp G.2.2.2 _ L);refine Ac 8 fun aE aP=>?_;simp only[go_sem,H,AH,w,zIS,tyC];refine b6 (Al (Ae (c7 (Aa fun _ c9=>Ai (AF 15 fun bx cn cD bo V aJ=>Av 13 V ?_)))));simp only[go_sem,H,AH,aj,a.symm,e,r.symm,h,h.symm,u.symm]
             refine Aw V (aq _ L _ _) ?_;refine Aw V (a0 _ _) ?_;refine Ap 0 V ?_;simp only[go_sem];refine Ad 1 V ?_;simp only[go_sem,a.symm,e,h];refine aJ (c9 (Ac 3 fun bw cm=>?_));simp only[go_sem,zIS,tyC];try simp (disch:=omega) only[Au]
             refine ⟨_,?_,i + 1,w,rfl,Ao ?_⟩
             ·omega
             simp only[go_sem,a1,a,a.symm,b,b.symm,e,e.symm,r,r.symm,h,h.symm,u,u.symm];all_goals first|trivial|omega
            ·have:i=S.params.length:=by omega
             subst this;rw[eo] at *;generalize S.params.foldl (putP S C.targs) O=M at *;have a0:=E5 M (by have:=Z.tl; omega) (AD (S.formals.map (·.name)) C.targs S.result) (Bp G.2.2.2 _ q6);have aU:=IOk.putT Z (Bp (ns:=S.formals.map (·.name)) G.2.2.2 _ q6);have aM:=MC p hp.sm hp.fm hp.pa hp.nb hp.kb _ aU X P C G (by omega) (by omega);refine Ac 8 fun aE aP=>?_;simp only[go_sem,H,AH,w,zIS,tyC];refine b6 (Aj (Aq (c5 (Aa fun _ ca=>AF 11 fun bz co cE bp W aK=>Av 9 W ?_))));simp only[go_sem,H,AH,a.symm,e,r.symm,h,h.symm,u.symm];refine Aw W (aq _ q6 _ _) ?_
             refine Aw W (a0 _ _) ?_;refine Ap 0 W ?_;simp only[go_sem];refine Ad 1 W ?_;simp only[go_sem,a.symm,e,h];refine aK (ca (Am fun bA cp cF bq ab aL=>Af 4 ab ?_));simp only[go_sem,a,a.symm,b,b.symm,e,e.symm,r,r.symm,h,h.symm,u,u.symm];refine Ak ab (aM _ _) ?_;refine Ad 1 ab ?_;simp only[go_sem,a.symm,e,h];refine aL (ay (Ac 3 fun a2 a3=>?_));simp only[go_sem,zIS,tyC];try simp (disch:=omega) only[Au]
             refine ⟨_,?_,j + 1,y,rfl,Ao ?_⟩
             ·omega
             simp only[go_sem,v,a,a.symm,b,b.symm,e,e.symm,r,h,u];all_goals first|trivial|omega
         ·rw[if_pos hl] at v;have a6:¬ (S.formals.length:Int)=(C.targs.length:Int):=by omega
          refine AE fun af ai au ae z K=>Ap 22 z ?_;simp only[go_sem,h0,H,AH,a6,r.symm,h.symm,u.symm];refine K (aG (Al (Aq (ay (Ac 3 fun a2 a3=>?_)))));simp only[go_sem,zIS,tyC];try simp (disch:=omega) only[Au]
          refine ⟨_,?_,j + 1,y,rfl,Ao ?_⟩
          ·omega
          simp only[go_sem,v,a,a.symm,b,b.symm,e,e.symm,r,h,u];all_goals first|trivial|omega
       ·have:j=s.calls.length:=by omega
        subst this;rw[eo] at *;refine Ac 5 fun aD aO=>?_;simp only[go_sem,y,a,zIS,b,tyC];refine b4 (Aj (Aq (b8 (Ac 3 fun g4 cr=>?_))));simp only[go_sem,zIS];try simp (disch:=omega) only[Au]
        refine ⟨_,?_,k + 1,a7,rfl,Ao ?_⟩
        ·omega
        simp only[go_sem,ar,a,a.symm,b,e];all_goals first|trivial|omega
  ·have:k=s.types.length:=by omega
   subst this;rw[eo];refine Ac 5 fun g3 cq=>?_;simp only[go_sem,a7,a,zIS];refine b7 (Aj (Aq (bT (Aa fun _ cb=>Ac 2 fun _ _=>?_))));simp only[go_sem,a,a.symm];refine cb (Ah ?_);rw[cx];refine Ag ?_;simp only[go_sem,a];exact Co.refl _
theorem WL:∀ (l:List Ty) (n:Nat),n≤Cg l n:=by
 have key:∀ t:Ty,∀ n,n + 1≤count t n:=by
  refine Ty.ind fun t ih n=>?_;rw[Fs];have:∀ (l:List Ty),(∀ x∈l,∀ n,n + 1≤count x n)→∀ n,n≤Cg l n:=by
   intro l;induction l with
   | nil=>intro _ n; simp[Cg]
   | cons x r a =>
    intro h n;rw[Cg];split
    ·have b:=h x dY n;have c:=a (fun y d=>h y (ea _ d)) (count x n);omega
    ·exact ec _
  have:=this t.args ih (n + 1 + t.name.size / 50);omega
 intro l;induction l with
 | nil=>intro n; simp[Cg]
 | cons x r a =>
  intro n;rw[Cg];split
  ·have b:=key x n;have c:=a (count x n);omega
  ·exact ec _
theorem Yk (t:Ty) (n:Nat):n + 1≤count t n:=by
 rw[Fs];have:=WL t.args (n + 1 + t.name.size / 50);omega
theorem RF:∀ (l:List Ty) (n:Nat),Cg l n≤2000→n + l.length≤Cg l n
 | [],n,_=>by simp[Cg]
 | x :: r,n,h=>by
  rw[Cg] at h ⊢;split at h
  ·rename_i hn;rw[if_pos hn];have h1:=Yk x n;have h2:=RF r (count x n) h;simp only[eB];omega
  ·omega
theorem PX {t:Ty} (h:count t 0≤60):t.args.length≤60:=by
 rw[Fs] at h;have:=RF t.args (0 + 1 + t.name.size / 50) (by omega);omega
theorem MD {s:ISet} (h:Fm s=false):(∀ t∈s.types,count t 0≤60)∧(∀ c∈s.calls,count (tgT c) 0≤60)∧s.large=false∧Bg s≤60:=by
 unfold Fm lrgT lrgC at h;simp only[Bool.or_eq_false_iff,List.any_eq_false,decide_eq_true_eq,decide_eq_false_iff_not] at h;obtain ⟨a,b,d,g⟩:=h;exact ⟨fun t f=>by have:=a t f; omega,fun c e=>by have:=b c e; omega,d,by omega⟩
theorem ZM {s:ISet} (h:Fm s=false):(∀ t∈s.types,t.args.length≤2000)∧∀ c∈s.calls,c.targs.length≤2000:=by
 obtain ⟨a,b,_⟩:=MD h;refine ⟨fun t e=>?_,fun c d=>?_⟩
 ·have:=PX (a t e); omega
 ·have:=PX (b c d); simp only[tgT,Ty.args_mk] at this; omega
theorem OG {α:Type} {cmp:α→α→Int} {x:α}:∀ (done:Bool) (l m:List α),CB cmp x done l=some m→l.length≤m.length
 | done,[],m,h=>dX _
 | done,y :: r,m,h=>by
  unfold CB at h;split at h
  ·cases h
  ·split at h
   ·obtain ⟨m',h1,rfl⟩:=ee.1 h;have:=OG true r m' h1;simp; omega
   ·obtain ⟨m',h1,rfl⟩:=ee.1 h;have:=OG done r m' h1;simp; omega
theorem VI {α:Type} {cmp:α→α→Int} (l:List α) (x:α):l.length≤(putG cmp l x).length:=by
 unfold putG;cases h:CB cmp x false l with
 | none=>exact ec _
 | some m=>exact OG false l m h
theorem Kk (s:ISet) (x:Ty):Bg s≤Bg (putT s x):=by
 unfold putT;split
 ·exact ec _
 ·have:=VI (cmp:=BK) s.types x;unfold Bg;simp only;omega
theorem abc (s:ISet) (x:Cal):Bg s≤Bg (putC s x):=by
 unfold putC;split
 ·exact ec _
 ·have:=VI (cmp:=D8) s.calls x;unfold Bg;simp only;omega
theorem It {α:Type} {f:ISet→α→ISet} (hf:∀ o a,Bg o≤Bg (f o a)):∀ (l:List α) (s:ISet),Bg s≤Bg (l.foldl f s)
 | [],_=>ec _
 | a :: l,s=>ef (hf s a) (It hf l _)
theorem TU (s:ISet) (b:Bool):Bg { s with large:=b }=Bg s:=rfl
theorem ZN (c:Cx) (s:ISet) (x:Ex):Bg s≤Bg (need1 c s x):=by
 have a:Bg s≤Bg (Dp s x):=by
  unfold Dp;split
  ·exact Kk _ _
  ·exact ec _
 unfold need1;split
 ·cases x.kids with
  | nil=>exact a
  | cons k r =>
   refine ef a ?_
   show _≤Bg (GP (Dp s x) x (inf c k));generalize Dp s x=S;generalize inf c k=q;unfold GP;split
   ·rw[TU];exact ec _
   ·refine ef ?_ (abc _ _);refine ef ?_ (Kk _ _);rw[TU];exact ec _
 ·exact a
theorem TV (p:Prg) (s:ISet):Bg s≤Bg (Eb p s):=by
 unfold Eb;refine It (fun o x=>?_) _ _;unfold FL;refine ef (m:=Bg (GQ p o x)) ?_ (It (fun o c=>?_) _ _)
 ·unfold GQ;split
  ·exact It (fun o f=>Kk _ _) _ _
  ·exact ec _
 ·unfold CP;cases CL (Bq p [] x) c.name with
  | none=>exact ec _
  | some n =>
   simp only;split
   ·exact ec _
   ·split
    ·unfold FZ bdOf;generalize (Bq p [] x).getD n Bw=a;have b:=It (f:=putP a c.targs) (fun o _=>Kk _ _) a.params o;have d:=Kk (a.params.foldl (putP a c.targs) o) (AD (a.formals.map (·.name)) c.targs a.result);refine ef b (ef d ?_);cases GB p x c.name with
     | none=>exact ec _
     | some e=>exact It (fun o _=>ZN _ _ _) _ _
    ·exact ec _
noncomputable def GR (p:Prg):Nat→ISet→Option ISet
 | 0,_=>none
 | f + 1,s=>if Fm s=true then none else if Bg (Eb p s)=Bg s then (if Fm (Eb p s)=true then none else some (Eb p s)) else GR p f (Eb p s)
theorem FM (p:Prg) (f:Nat) (s:ISet):GR p (f + 1) s=if Fm s=true then none else if Bg (Eb p s)=Bg s then (if Fm (Eb p s)=true then none else some (Eb p s)) else GR p f (Eb p s):=rfl
theorem Lk (p:Prg):∀ (f:Nat) (s:ISet),61 < f + Bg s→0 < f→∀ e,GR p (f + e) s=GR p f s
 | 0,_,_,h,_=>absurd h (by decide)
 | f + 1,s,h1,_,e=>by
  rw[show f + 1 + e=(f + e) + 1 by omega,FM,FM];split
  ·rfl
  ·rename_i hl;have:=(MD (fI.2 hl)).2.2.2;split
   ·rfl
   ·rename_i hne;have hge:=TV p s;exact Lk p f _ (by omega) (by omega) e
def FN:ISet:=⟨[],[],false⟩
noncomputable def D2 (p:Prg):ISet:=Ir (AN p []) FN p.main
noncomputable def Fy (p:Prg):Option ISet:=GR p 62 (D2 p)
theorem IOk.zero:IOk FN:=⟨by simp[FN],fun _ h=>by simp[FN] at h,by simp[FN],fun _ h=>by simp[FN] at h⟩
theorem QC:Co (.agg [.val (.slice none 0 0),.val (.slice none 0 0),.val (.bool false)]) (Ey FN):=.agg (.cons (.nil _) (.cons (.nil _) (.cons (.refl _) .nil)))
set_option maxRecDepth 100000 in
set_option maxHeartbeats 2000000 in
theorem TW (p:Prg) (hp:PrOk p) (hl:(AB p.main).length≤1000000) (hk:∀ x∈AB p.main,x.kind=2→x.kids≠[]) (g d:Nat):ACalls E 6 [AZ p] [] g d (.tup [Ey ((Fy p).getD FN),dB (Fy p).isSome]) []:=by
 have D:smCx (AN p []):=⟨hp.sm,⟨by simp[AN],fun _ h=>by simp[AN] at h⟩,by simp[AN],fun _ h=>by simp[AN] at h⟩
 have H:=LE p hp.sm [] D FN IOk.zero p.main hp.sm.2 hl hk;have ab:IOk (D2 p):=HJ D _ _ IOk.zero (nodes_sm _ hp.sm.2);have a7:Fy p=GR p (61 - Bg (D2 p) + 1) (D2 p):=by
  unfold Fy;have:=Lk p (61 - Bg (D2 p) + 1) (D2 p) (by omega) (by omega) (62 - (61 - Bg (D2 p) + 1));rw[← this]
  congr 1
  omega
 change ∀ g d,ACalls E _ _ _ g d (Ey (D2 p)) _ at H;generalize D2 p=v at *;refine Ax 27 Tryz.call6 Tryz.func6 ?_;simp only[go_sem];refine Aa fun _ N=>Ac 3 fun f _=>?_;simp only[go_sem];refine N (Aa fun _ U=>Am fun o a8 _ _ r a0=>Af 4 r ?_);simp only[go_sem];refine AA r rfl rfl rfl (H _ _) (.cons (.refl _) (.cons QC (.cons (.refl _) (.cons (.nil _) .nil)))) ?_;refine Ad 2 r ?_;simp only[go_sem];refine a0 (U (Aa fun _ V=>Aa fun _ W=>?_));have a:o≠f:=Ar a8 1 0 (by simp[go_sem]);refine Ac 1 fun _ _=>?_;simp only[go_sem];refine W (Ai ?_)
 refine Ay (fun m I=>∃ S z,IOk S∧m=(if z=(Bg S:Int) then 0 else 63 - Bg S + 1)∧(z≠(Bg S:Int)→Fy p=GR p (61 - Bg S + 1) S)∧(z=(Bg S:Int)→Fy p=if Fm S=true then none else some S)∧Le { env:=[(1,.ptr ⟨f,1,0⟩ 0),(2,.ptr ⟨f,2,0⟩ 0),(4,.ptr ⟨o,4,0⟩ 0),(5,dI z)],σ:=[(⟨f,1,0⟩,.box 30 (prC p)),(⟨f,2,0⟩,.box 35 zIS),(⟨o,4,0⟩,.box 35 (isC S))] } I) (63 - Bg v + 1) ?_ ?_
 ·refine ⟨v,-1,ab,?_,fun _=>a7,fun F=>?_,Ao ?_⟩
  ·rw[if_neg (by omega)]
  ·omega
  simp only[go_sem,zIS,a,a.symm];all_goals first|trivial|omega
 ·rintro m I ⟨S,z,i,rfl,aa,a6,G⟩;refine Az G ?_;clear G;have h1:=i.tl;have h2:=i.cl;have u:=I4 S (by omega) (by omega);have n:=Sf S i;refine Aa fun _ X=>Aa fun _ y=>?_;by_cases l:z=(Bg S:Int)
  ·have c:=a6 l;refine Am fun M a9 ae J e q=>Af 2 e ?_;simp only[go_sem,a.symm,zIS];refine Ak e (u _ _) ?_;refine Ad 1 e ?_;simp only[go_sem,l];refine q (y (Aj (Aq (V (Aa fun _ Y=>Aa fun _ A=>Am fun _ _ _ _ k C=>Af 1 k ?_)))));simp only[go_sem,a.symm];cases b:Fm S with
   | true =>
    rw[b,if_pos rfl] at c;refine Ak k (n _ _) ?_;refine Ad 0 k ?_;simp only[go_sem,b];refine C (A (Al (Aa fun _ Z=>Ac 3 fun _ _=>?_)));simp only[go_sem,a];refine Z (Ah ?_);rw[c];refine Ag ?_;simp only[go_sem,a];exact .tup (.cons QC (.cons (.refl _) .nil))
   | false =>
    rw[b,if_neg (by decide)] at c;refine Ak k (n _ _) ?_;refine Ad 0 k ?_;simp only[go_sem,b];refine C (A (Aj (Ae (Y (Aa fun _ O=>Ac 3 fun _ _=>?_)))));simp only[go_sem,a,a.symm];refine O (Ah ?_);rw[c];refine Ag ?_;simp only[go_sem,a];exact Co.refl _
  ·have ad:(z=(Bg S:Int))=False:=eq_false l;have c:=aa l;rw[if_neg l];rw[FM] at c;refine Am fun M a9 ae J e q=>Af 2 e ?_;simp only[go_sem,a.symm,zIS];refine Ak e (u _ _) ?_;refine Ad 1 e ?_;simp only[go_sem,ad];refine q (y (Al (Ae (X (Ai (Aa fun _ P=>Aa fun _ w=>Am fun _ _ _ _ j B=>Af 1 j ?_))))));simp only[go_sem,a.symm];cases b:Fm S with
   | true =>
    rw[b,if_pos rfl] at c;refine Ak j (n _ _) ?_;refine Ad 0 j ?_;simp only[go_sem,b];refine B (w (Al (Aa fun _ Q=>Ac 3 fun _ _=>?_)));simp only[go_sem,a];refine Q (Ah ?_);rw[c];refine Ag ?_;simp only[go_sem,a];exact .tup (.cons QC (.cons (.refl _) .nil))
   | false =>
    rw[b,if_neg (by decide)] at c;have ai:=(MD b).2.2.2;obtain ⟨K,L⟩:=ZM b;have ac:=Sg p hp S i K L;have hR:=OF hp i;have ah:=TV p S;generalize Eb p S=R at *;refine Ak j (n _ _) ?_;refine Ad 0 j ?_;simp only[go_sem,b];refine B (w (Aj (Ae (P (Aa fun _ T=>Am fun _ _ _ _ s a3=>Af 1 s ?_)))));simp only[go_sem,a.symm];refine Ak s (u _ _) ?_;refine Ad 1 s ?_;simp only[go_sem];refine a3 (T (Am fun _ _ _ _ t a4=>Af 2 t ?_));simp only[go_sem,a,a.symm];refine Ak t (ac _ _) ?_;refine Ad 1 t ?_;simp only[go_sem,a.symm];refine a4 ?_;refine ⟨_,?_,R,(Bg S:Int),hR,rfl,fun F=>?_,fun F=>?_,Ao ?_⟩
    ·split <;> omega
    ·rw[c,if_neg (by omega)];have:=Lk p (61 - Bg R + 1) R (by omega) (by omega) ((61 - Bg S) - (61 - Bg R + 1));rw[← this]
     congr 1
     omega
    ·rw[c,if_pos (by omega)]
    simp only[go_sem,a,a.symm,zIS];all_goals first|trivial|omega
def keyS (n:Str) (k:Nat):Str:=(n++(⟨#[32]⟩:ByteArray))++strOfNums [(k:Int) / 256,(k:Int) % 256]
theorem abI {a b:ByteArray} (h:a.data.toList=b.data.toList):a=b:=by
 cases a; cases b;simp only at h
 congr 1
 exact Array.toList_inj.1 h
theorem ME (n:Str) (k:Nat):(keyS n k).data.toList=n.data.toList++(32:UInt8) :: (strOfNums [(k:Int) / 256,(k:Int) % 256]).data.toList:=by
 unfold keyS;rw[ByteArray.data_append,gX,ByteArray.data_append,gX,eE]
 rfl
theorem He (a b:Int):(strOfNums [a,b]).data.toList=[UInt8.ofNat a.toNat,UInt8.ofNat b.toNat]:=by
 rfl
theorem ZO {n m:Str} {j k:Nat} (hj:j < 65536) (hk:k < 65536) (h:keyS n j=keyS m k):n=m∧j=k:=by
 have h:=congrArg (fun b:ByteArray=>b.data.toList) h;change (keyS n j).data.toList=(keyS m k).data.toList at h;rw[ME,ME,He,He] at h;have e:=List.append_inj_left' h rfl;have d:=List.append_inj_right' h rfl;refine ⟨abI e,?_⟩;simp only[List.cons.injEq,and_true,true_and] at d;obtain ⟨a,c⟩:=d;have a:=congrArg UInt8.toNat a;have c:=congrArg UInt8.toNat c;rw[UInt8.toNat_ofNat',UInt8.toNat_ofNat'] at a c;omega
theorem Jv (n:Str) (k:Nat):(keyS n k).size=n.size + 3:=by
 have h:=congrArg List.length (ME n k);rw[He,dQ] at h;exact h
noncomputable def addK (n:Str):Nat→List Str→List Str
 | 0,l=>l
 | c + 1,l=>putS (addK n c l) (keyS n c)
theorem Ll (n:Str):∀ (c:Nat) (l:List Str),(addK n c l).length≤l.length + c
 | 0,l=>ec _
 | c + 1,l=>by
  have h1:=Tq (addK n c l) (keyS n c);have h2:=Ll n c l;rw[addK]; omega
theorem OH (n:Str):∀ (c:Nat) (l:List Str) (x:Str),x∈addK n c l↔(∃ k,k < c∧x=keyS n k)∨x∈l
 | 0,l,x=>by simp[addK]
 | c + 1,l,x=>by
  rw[addK,IU,OH n c l x];constructor
  ·rintro (h | ⟨k,hk,h⟩ | h)
   ·exact .inl ⟨c,by omega,h⟩
   ·exact .inl ⟨k,by omega,h⟩
   ·exact .inr h
  ·rintro (⟨k,hk,h⟩ | h)
   ·by_cases hkc:k=c
    ·subst hkc; exact .inl h
    ·exact .inr (.inl ⟨k,by omega,h⟩)
   ·exact .inr (.inr h)
theorem PY (n:Str):∀ (c:Nat) (l:List Str),l.Nodup→(addK n c l).Nodup
 | 0,_,h=>h
 | c + 1,l,h=>KZ _ _ (PY n c l h)
noncomputable def addF (l:List Str) (s:Str × Nat):List Str:=addK s.1 s.2 l
theorem Hf:∀ (L:List (Str × Nat)) (l:List Str),(L.foldl addF l).length≤l.length + (L.map (·.2)).sum
 | [],l=>by simp
 | s :: L,l=>by
  have h1:=Hf L (addF l s);have h2:=Ll s.1 s.2 l;simp only[fz,eM,fV];unfold addF at *;omega
theorem Lm:∀ (L:List (Str × Nat)) (l:List Str) (x:Str),x∈L.foldl addF l↔(∃ s∈L,∃ k,k < s.2∧x=keyS s.1 k)∨x∈l
 | [],l,x=>by simp
 | s :: L,l,x=>by
  rw[fz,Lm L (addF l s) x];unfold addF;rw[OH];constructor
  ·rintro (⟨t,ht,h⟩ | h | h)
   ·exact .inl ⟨t,ea _ ht,h⟩
   ·exact .inl ⟨s,dY,h⟩
   ·exact .inr h
  ·rintro (⟨t,ht,h⟩ | h)
   ·rcases eq.1 ht with rfl | ht
    ·exact .inr (.inl h)
    ·exact .inl ⟨t,ht,h⟩
   ·exact .inr (.inr h)
theorem Ln:∀ (L:List (Str × Nat)) (l:List Str),l.Nodup→(L.foldl addF l).Nodup
 | [],_,h=>h
 | s :: L,l,h=>Ln L _ (PY s.1 s.2 l h)
def tyF (d:Dec):Str × Nat:=(d.name,d.formals.length)
def siF (s:Sig):Str × Nat:=(s.name,s.formals.length)
def meF (d:Dec):List (Str × Nat):=(d.sigs++[d.sig]).map siF
noncomputable def Dd (p:Prg):List Str:=(p.decls.map tyF).foldl addF []
noncomputable def De (p:Prg):List Str:=(p.decls.flatMap meF).foldl addF []
theorem TX {α:Type} (w:α→Nat) {l:List α} {k:Nat} (h:k < l.length):((l.take k).map w).sum + w l[k]≤(l.map w).sum:=by
 have b:l.take (k + 1)=l.take k++[l[k]]:=by rw[ep,dO h]; rfl
 have a:=congrArg (fun l=>(l.map w).sum) (fC (k + 1) l);simp only[eC,gK] at a;rw[b] at a;simp only[eC,gK,eM,f9,fV,List.sum_nil] at a;omega
theorem MF (d:Dec):d.formals.length≤wN (Bl d):=by
 have a:=FX (d.formals.map (·.bound));unfold Bl;rw[AW,AW,AW,AW];simp only[ei] at a;omega
theorem Kl {α:Type} {f w:α→Nat} (h:∀ a,f a≤w a):∀ l:List α,(l.map f).sum≤(l.map w).sum
 | []=>ec _
 | a :: l=>by
  have:=Kl h l;have:=h a;simp only[eM,fV];omega
theorem TY (d:Dec):((meF d).map (·.2)).sum≤wN (Bl d):=by
 have b:=HF d.sig;have c:(d.sigs.map (fun s=>s.formals.length)).sum≤(d.sigs.map (fun a=>wN (AP a))).sum:=Kl (fun s=>by have:=HF s; omega) _;unfold Bl meF;rw[AW,AW,AW,AW,Ej];simp only[eC,fB,gK,eM,f9,fV,List.sum_nil];have e:(d.sigs.map ((fun x=>x.2) ∘ siF)).sum=(d.sigs.map (fun s=>s.formals.length)).sum:=rfl;have f:(siF d.sig).2=d.sig.formals.length:=rfl;omega
theorem BP {α β:Type} (f:β→α→β) (a:β) {l:List α} {k:Nat} (h:k < l.length):(l.take (k + 1)).foldl f a=f ((l.take k).foldl f a) l[k]:=by
 rw[ep,dO h,eQ]
 rfl
theorem ZP:∀ l:List Sig,BO 7 (l.map AH):=fun l=>Du 7 AH l fun _=>⟨rfl,rfl⟩
def smL (l:List Str):Prop:=l.length≤1000000∧∀ x∈l,x.size≤9223372036854775807
theorem QD {n:Str} (hn:n.size≤1000000) {c:Nat} {l:List Str} (h:smL l) (hc:l.length + c≤1000000):smL (addK n c l):=by
 refine ⟨ef (Ll n c l) hc,fun x a=>?_⟩;rcases (OH n c l x).1 a with ⟨k,_,rfl⟩ | a
 ·rw[Jv]; omega
 ·exact h.2 x a
theorem OI:∀ (L:List (Str × Nat)) (l:List Str),smL l→(∀ s∈L,s.1.size≤1000000)→l.length + (L.map (·.2)).sum≤1000000→smL (L.foldl addF l)
 | [],l,h,_,_=>h
 | s :: L,l,h,hs,hc=>by
  simp only[eM,fV] at hc;refine OI L _ (QD (hs s dY) h (by omega)) (fun x hx=>hs x (ea _ hx)) ?_;have:=Ll s.1 s.2 l;unfold addF;omega
theorem TZ (n:Str) (k:Nat):(n++(⟨#[32]⟩:ByteArray))++strOfNums [(k:Int) / 256,(k:Int) % 256]=keyS n k:=rfl
theorem wrap8 {x:Int} (h0:0≤x) (h:x≤255):IntKind.u8.wrap x=x:=by
 simp[IntKind.wrap,IntKind.signed,IntKind.bits];omega
theorem strOfNums_size (a b:Int):(strOfNums [a,b]).size=2:=rfl
theorem OJ (p:Prg):(p.decls.map (fun d=>wN (Bl d))).sum≤wN (Bx p):=by
 unfold Bx;rw[AW,Ej];omega
theorem Ik (p:Prg):(Dd p).length≤wN (Bx p):=by
 have a:=Hf (p.decls.map tyF) [];have b:((p.decls.map tyF).map (·.2)).sum≤(p.decls.map (fun d=>wN (Bl d))).sum:=by
  rw[fB];exact Kl (fun d=>MF d) _
 have c:=OJ p;unfold Dd;simp only[eZ] at a;omega
theorem QE:∀ X:List Dec,((X.flatMap meF).map (·.2)).sum≤(X.map (fun d=>wN (Bl d))).sum
 | []=>by simp
 | x :: X=>by
  have:=TY x;have:=QE X;simp only[eO,eC,gK,eM,fV];omega
theorem Il (p:Prg):(De p).length≤wN (Bx p):=by
 have a:=Hf (p.decls.flatMap meF) [];have b:=QE p.decls;have c:=OJ p;unfold De;simp only[eZ] at a;omega
def meP (L:List Dec):List (Str × Nat):=L.flatMap meF
set_option maxRecDepth 100000 in
theorem Sh (p:Prg) (hp:smPr p) (hw:wN (Bx p)≤60000) (g q:Nat):ACalls E 25 [AZ p] [] g q (dN ((Dd p).length + (De p).length)) []:=by
 obtain ⟨⟨k1,W⟩,k3⟩:=hp;have be:(p.decls.map (fun d=>wN (Bl d))).sum≤60000:=by
  unfold Bx at hw;rw[AW,Ej] at hw;omega
 refine Ax 90 Tryz.call25 Tryz.func25 ?_;simp only[go_sem];refine Aa fun _ an=>Ac 2 fun o _=>?_;simp only[go_sem];refine an (Aa fun _ ay=>Ac 1 fun _ _=>?_);simp only[go_sem];refine ay (Aa fun _ aD=>?_);refine Bh 3 9 1 rfl fun gn _=>?_;refine Ch ⟨gn,0,0⟩ ?_;simp only[go_sem];refine Ac 1 fun _ _=>?_;simp only[go_sem];refine aD (Aa fun _ aE=>Aa fun _ aF=>?_);refine Bh 4 9 1 rfl fun gm a6=>?_;refine Ch ⟨gm,0,0⟩ ?_;simp only[go_sem];refine Ac 1 fun _ _=>?_;simp only[go_sem];refine aF (Ai ?_)
 refine Ay (fun m c=>∃ k l r,k≤p.decls.length∧m=p.decls.length - k∧(l=((p.decls.take k).map tyF).foldl addF []∧r=(meP (p.decls.take k)).foldl addF []) ∧
   Le { env:=[(1,.ptr ⟨o,1,0⟩ 0),(5,dN k),(3,slS l),(4,slS r)],σ:=[(⟨o,1,0⟩,.box 30 (prC p))] } c) p.decls.length ?_ ?_
 ·refine ⟨0,[],[],dX _,rfl,⟨rfl,rfl⟩,Ao ?_⟩;simp only[go_sem];all_goals first|trivial|omega
 ·rintro m c ⟨k,l,r,hk,rfl,⟨A,C⟩,a⟩;refine Az a ?_;clear a;refine Aa fun _ aG=>Aa fun _ a4=>?_;by_cases v:k < p.decls.length
  ·have bc:=TX (fun d=>wN (Bl d)) v;have a6:=getM (f:=Ce) v;have y:=W _ (dP v);have af:((p.decls.take (k + 1)).map tyF).foldl addF []=addF l (tyF p.decls[k]):=by
    rw[ep,dO v,eC,eQ,← A]
    rfl
   have aa:(meP (p.decls.take (k + 1))).foldl addF []=(meF p.decls[k]).foldl addF r:=by
    unfold meP;rw[Et meF v,eQ,C]
    rfl
   have b8:l.length≤((p.decls.take k).map (fun d=>wN (Bl d))).sum:=by
    have t:=Hf ((p.decls.take k).map tyF) [];have M:(((p.decls.take k).map tyF).map (·.2)).sum≤((p.decls.take k).map (fun d=>wN (Bl d))).sum:=by
     rw[fB];exact Kl (fun d=>MF d) _
    rw[← A] at t;simp only[eZ] at t;omega
   have bb:r.length≤((p.decls.take k).map (fun d=>wN (Bl d))).sum:=by
    have t:=Hf (meP (p.decls.take k)) [];have M:((meP (p.decls.take k)).map (·.2)).sum≤((p.decls.take k).map (fun d=>wN (Bl d))).sum:=by
     unfold meP;generalize p.decls.take k=X;induction X with
     | nil=>simp
     | cons x X ih =>
      have:=TY x;simp only[eO,eC,gK,eM,fV];omega
    rw[← C] at t;simp only[eZ] at t;omega
   have aX:smL l:=by
    rw[A];refine OI _ _ ⟨by simp,by simp⟩ (fun s b=>?_) ?_
    ·obtain ⟨d,O,rfl⟩:=eh.1 b;exact (W d (ff O)).1
    ·have M:(((p.decls.take k).map tyF).map (·.2)).sum≤((p.decls.take k).map (fun d=>wN (Bl d))).sum:=by
      rw[fB];exact Kl (fun d=>MF d) _
     simp only[eZ];omega
   have aY:smL r:=by
    refine ⟨by omega,fun x F=>?_⟩;rw[C,Lm] at F;rcases F with ⟨s,b,j,hj,rfl⟩ | F
    ·unfold meP at b;obtain ⟨d,O,b⟩:=ez.1 b;obtain ⟨Y,aW,rfl⟩:=eh.1 b;have a8:=W d (ff O);have:Y.name.size≤1000000:=by
      rcases eu.1 aW with h | h
      ·exact (a8.2.2.2.1.2 Y h).1
      ·rw[eg.1 h];exact a8.2.2.2.2.2.2.1.1
     rw[Jv]
     show Y.name.size + 3≤_;omega
    ·cases F
   clear A C;refine Ac 5 fun g4 aP=>?_;simp only[go_sem,v];refine a4 (Al (Ae (aG (Aa fun _ aH=>Ai (Aa fun _ aI=>?_)))));generalize p.decls[k]=D at *;have b3:=MF D;have b5:=y.2.2.2.1.1;refine Ac 7 fun L aQ=>?_;simp only[go_sem,a6];refine aI (Aa fun _ ao=>?_);have e:L≠o:=Ar aQ 1 0 (by simp[go_sem]);refine awp_anyT 8 [0,0,2,7,0,16,48,127,255] (by kernel_rfl) (by kernel_rfl) (by kernel_rfl) rfl (fun g7 _ _ _ B aL=>?_);refine qrunT_eval 3 B rfl ?_;simp only[go_sem,e.symm];refine qrunT_app B rfl rfl rfl rfl rfl es43 sz46 by46 ze46 rfl (by decide) rfl rfl ?_;simp only[go_sem,ZP]
   first | refine ⟨⟨by omega,by omega⟩,?_⟩ | skip
   refine qrunT_eval 3 B rfl ?_;simp only[go_sem,e.symm];refine qrunT_app B rfl rfl rfl rfl rfl es43 sz46 by46 ze46 rfl (by decide) rfl rfl ?_;simp only[go_sem];first | refine ⟨⟨by omega,by omega⟩,?_⟩ | skip
   refine qrunT_last 0 B rfl ?_;simp only[go_sem];refine Ad 1 B ?_;simp only[go_sem];refine aL _ (ao (Aa fun _ ap=>Aa fun _ aq=>?_));refine Ch ⟨g7,30,0⟩ ?_;simp only[go_sem];have hS:(D.sigs.map AH++[.agg (siC D.sig)])=(D.sigs++[D.sig]).map AH:=by simp[AH]
   refine Ac 1 fun _ _=>?_;simp only[go_sem];refine aq (Ai ?_);refine Ay (fun m c=>∃ j n,j≤D.formals.length∧m=D.formals.length - j∧n=addK D.name j l ∧
     Le { env:=[(1,.ptr ⟨o,1,0⟩ 0),(4,slS r),(5,dN k),(6,.ptr ⟨L,6,0⟩ 0),(7,.sl false ((D.sigs++[D.sig]).map AH)),(3,slS n),(8,dN j)],σ:=[(⟨o,1,0⟩,.box 30 (prC p)),(⟨L,6,0⟩,.box 48 (deC D))] } c) D.formals.length ?_ ?_
   ·refine ⟨0,l,dX _,rfl,rfl,Ao ?_⟩;simp only[go_sem,← hS,e,e.symm];all_goals first|trivial|omega
   ·rintro m c ⟨j,n,hj,rfl,Q,a⟩;refine Az a ?_;clear a;refine Aa fun _ ar=>Aa fun _ a1=>?_;by_cases R:j < D.formals.length
    ·have ad:smL n:=by rw[Q]; exact QD y.1 aX (by omega)
     have aU:=y.1;have aS:=Jv D.name j;have b0:IntKind.u8.wrap ((j:Int) / 256)=(j:Int) / 256:=wrap8 (by omega) (by omega);have b1:IntKind.u8.wrap ((j:Int) % 256)=(j:Int) % 256:=wrap8 (by omega) (by omega);have J:(ByteArray.size (D.name)≤9223372036854775806)=True:=eq_true (by omega);have I:((256:Int)=0)=False:=eq_false (by decide);have hz:=strOfNums_size ((j:Int) / 256) ((j:Int) % 256);have K:(ByteArray.size (D.name) + 1 + (strOfNums [(j:Int) / 256,(j:Int) % 256]).size≤9223372036854775807)=True:=eq_true (by omega);refine Ac 5 fun g9 aR=>?_;simp only[go_sem,R,e.symm]
     refine a1 (Al (Ae (ar (Aa fun _ au=>Ai (Am fun _ _ _ _ U aJ=>Af 13 U ?_)))));simp only[go_sem,e.symm,J,I];try simp (disch:=omega) only[Au,Ba,dZ,ed]
     try simp only[go_sem,TZ,K]
     try simp (disch:=omega) only[Au,Ba,dZ,ed]
     refine AA U rfl rfl rfl (EG n ad.1 (keyS (D.name) j) (by omega) ad.2 _ _) (CoL.refl _) ?_;refine Ad 1 U ?_;simp only[go_sem];refine aJ (au (Ac 3 fun _ _=>?_));simp only[go_sem];try simp (disch:=omega) only[Au]
     refine ⟨_,?_,j + 1,putS n (keyS D.name j),R,rfl,by rw[addK,Q],Ao ?_⟩
     ·omega
     simp only[go_sem,e,e.symm];all_goals first|trivial|omega
    ·have:j=D.formals.length:=by omega
     subst this;refine Ac 5 fun g9 aR=>?_;simp only[go_sem,R,e.symm];refine a1 (Aj (Aq (ap (Aa fun _ av=>Ac 1 fun _ _=>?_))));simp only[go_sem];refine av (Ai ?_);generalize N:D.sigs++[D.sig]=S at *;have a9:meF D=S.map siF:=by rw[← N]; rfl
     have b4:S.length=D.sigs.length + 1:=by rw[← N]; simp
     have a5:∀ s∈S,smSi s:=fun s b=>by
      rw[← N] at b;rcases eu.1 b with h | h
      ·exact y.2.2.2.1.2 s h
      ·rw[eg.1 h];exact y.2.2.2.2.2.2.1
     have ab:=TY D;rw[a9,fB] at ab;rw[a9] at aa;have aT:addF l (tyF D)=n:=Q.symm;rw[aT] at af;refine Ay (fun m c=>∃ i u,i≤S.length∧m=S.length - i∧u=((S.take i).map siF).foldl addF r ∧
       Le { env:=[(1,.ptr ⟨o,1,0⟩ 0),(4,slS u),(5,dN k),(7,.sl false (S.map AH)),(3,slS n),(9,dN i)],σ:=[(⟨o,1,0⟩,.box 30 (prC p))] } c) S.length ?_ ?_
     ·refine ⟨0,r,dX _,rfl,rfl,Ao ?_⟩;simp only[go_sem,e];all_goals first|trivial|omega
     ·rintro m c ⟨i,u,hi,rfl,G,a⟩;refine Az a ?_;clear a;refine Aa fun _ aw=>Aa fun _ a2=>?_;by_cases w:i < S.length
      ·have ac:=a5 _ (dP w);have P:=getM (f:=AH) w;have bd:=TX (fun s=>s.formals.length) w;have aV:((S.take (i + 1)).map siF).foldl addF r=addF u (siF S[i]):=by
        rw[ep,dO w,eC,eQ,← G]
        rfl
       have ba:u.length≤r.length + ((S.take i).map (fun s=>s.formals.length)).sum:=by
        have t:=Hf ((S.take i).map siF) r;rw[← G,fB] at t;exact t
       have b9:(S.map (fun s=>s.formals.length)).sum≤wN (Bl D):=ab;have aZ:smL u:=by
        rw[G];refine OI _ _ aY (fun s b=>?_) ?_
        ·obtain ⟨x,F,rfl⟩:=eh.1 b;exact (a5 x (ff F)).1
        ·rw[fB];have:((S.take i).map ((fun x=>x.2) ∘ siF)).sum=((S.take i).map (fun s=>s.formals.length)).sum:=rfl;omega
       refine Ac 4 fun ag aN=>?_;simp only[go_sem,w];refine a2 (Al (Ae (aw (Aa fun _ ax=>Ai (Aa fun _ az=>?_)))));generalize S[i]=X at *;refine Ac 1 fun _ _=>?_;simp only[go_sem];refine az (Ai ?_);refine Ay (fun m c=>∃ j z,j≤X.formals.length∧m=X.formals.length - j∧z=addK X.name j u ∧
         Le { env:=[(1,.ptr ⟨o,1,0⟩ 0),(4,slS z),(5,dN k),(7,.sl false (S.map AH)),(3,slS n),(9,dN i),(10,dN j)],σ:=[(⟨o,1,0⟩,.box 30 (prC p))] } c) X.formals.length ?_ ?_
       ·refine ⟨0,u,dX _,rfl,rfl,Ao ?_⟩;simp only[go_sem];all_goals first|trivial|omega
       ·rintro m c ⟨j,z,hj,rfl,V,a⟩;refine Az a ?_;clear a;refine Aa fun _ aA=>Aa fun _ a3=>?_;by_cases T:j < X.formals.length
        ·have ae:smL z:=by rw[V]; exact QD ac.1 aZ (by omega)
         have y:=ac;have aU:=y.1;have aS:=Jv X.name j;have b0:IntKind.u8.wrap ((j:Int) / 256)=(j:Int) / 256:=wrap8 (by omega) (by omega);have b1:IntKind.u8.wrap ((j:Int) % 256)=(j:Int) % 256:=wrap8 (by omega) (by omega);have J:(ByteArray.size (X.name)≤9223372036854775806)=True:=eq_true (by omega);have I:((256:Int)=0)=False:=eq_false (by decide);have hz:=strOfNums_size ((j:Int) / 256) ((j:Int) % 256);have K:(ByteArray.size (X.name) + 1 + (strOfNums [(j:Int) / 256,(j:Int) % 256]).size≤9223372036854775807)=True:=eq_true (by omega);refine Ac 8 fun ah aO=>?_;simp only[go_sem,T,P]
         refine a3 (Al (Ae (aA (Aa fun _ aB=>Ai (AF 17 fun _ _ _ _ H aK=>Av 16 H ?_)))));simp only[go_sem,P,J,I];try simp (disch:=omega) only[Au,Ba,dZ,ed]
         try simp only[go_sem,TZ,K]
         try simp (disch:=omega) only[Au,Ba,dZ,ed]
         refine AI H rfl rfl rfl (EG z ae.1 (keyS (X.name) j) (by omega) ae.2 _ _) (CoL.refl _) rfl ?_;refine Ap 0 H ?_;simp only[go_sem];refine Ad 1 H ?_;simp only[go_sem];refine aK (aB (Ac 3 fun _ _=>?_));simp only[go_sem];try simp (disch:=omega) only[Au]
         refine ⟨_,?_,j + 1,putS z (keyS X.name j),T,rfl,by rw[addK,V],Ao ?_⟩
         ·omega
         simp only[go_sem];all_goals first|trivial|omega
        ·have:j=X.formals.length:=by omega
         subst this;refine Ac 8 fun ah aO=>?_;simp only[go_sem,T,P];refine a3 (Aj (Aq (ax (Ac 3 fun _ _=>?_))));simp only[go_sem];try simp (disch:=omega) only[Au]
         refine ⟨_,?_,i + 1,z,w,rfl,by rw[aV,V]; rfl,Ao ?_⟩
         ·omega
         simp only[go_sem];all_goals first|trivial|omega
      ·have:i=S.length:=by omega
       subst this;rw[eo] at G;refine Ac 4 fun ag aN=>?_;simp only[go_sem,w];refine a2 (Aj (Aq (aH (Ac 3 fun _ _=>?_))));simp only[go_sem];try simp (disch:=omega) only[Au]
       refine ⟨_,?_,k + 1,n,u,v,rfl,⟨af.symm,by rw[aa,G]⟩,Ao ?_⟩
       ·omega
       simp only[go_sem];all_goals first|trivial|omega
  ·have:k=p.decls.length:=by omega
   subst this;rw[eo] at A C;have Z:l=Dd p:=A;have e2:r=De p:=C;have t:l.length≤60000:=by rw[Z]; exact ef (Ik p) hw
   have M:r.length≤60000:=by rw[e2]; exact ef (Il p) hw
   refine Ac 5 fun g4 aP=>?_;simp only[go_sem,v];refine a4 (Aj (Aq (aE (Aa fun _ aC=>Ac 6 fun _ _=>?_))));simp only[go_sem];try simp (disch:=omega) only[Au]
   refine aC (Ah (Ag ?_));simp only[go_sem];exact Co.of_eq (by rw[← Z,← e2]; simp[])
set_option maxRecDepth 100000 in
theorem Si (t:Ex) (_hok0:okEx t) (h0:t.kids=[]) (g d:Nat):ACalls E 28 [AK t] [] g d (.sl true [AK t]) []:=by
 have k : (((0:Nat):Int) < (t.kids.length:Int))=False:=eq_false (by rw[h0]; decide);refine Ax 23 Tryz.call28 Tryz.func28 ?_;simp only[go_sem];refine Aa fun _ c=>Ac 2 fun a _=>?_;simp only[go_sem];refine c (Aa fun _ e=>Ac 3 fun _ _=>?_);simp only[go_sem];refine e (Aa fun _ f=>Aa fun _ h=>Ac 1 fun _ _=>?_);simp only[go_sem];refine h (Ai ?_);refine Ay (fun m s=>m=0∧Le { env:=[(1,.ptr ⟨a,1,0⟩ 0),(4,dN 0),(3,.sl true [AK t])],σ:=[(⟨a,1,0⟩,.box 28 (exC t))] } s) 0 ?_ ?_
 ·refine ⟨rfl,Ao ?_⟩;simp only[go_sem];all_goals first|trivial|omega
 ·rintro m s ⟨rfl,b⟩;refine Az b ?_;clear b;refine Aa fun _ _=>Aa fun _ i=>Ac 5 fun _ _=>?_;simp only[go_sem,k];refine i (Aj (Aq (f (Aa fun _ j=>Ac 2 fun _ _=>?_))));simp only[go_sem];refine j (Ah (Ag ?_));simp only[go_sem];exact Co.refl _
set_option maxRecDepth 100000 in
theorem Sj (t:Ex) (hok0:okEx t) (hlen:(AB t).length≤1000000) (h0:0 < t.kids.length) (g d:Nat):ACalls E 28 [AK t] [] g d (.own ⟨g,d,1⟩ (AB t).length) [(⟨g,d,1⟩,.arr 28 8 ((AB t).map AK))]:=by
 have ih:∀ x∈t.kids,okEx x→(AB x).length≤1000000→∀ g d,ACalls E 28 [AK x] [] g d (slEx (AB x)) []:=fun x _ S P g d=>DB x S P g d;have w:=(EW t).1 hok0;have v:=BC t;have V:(Be t.kids).length + 1≤1000000:=by rw[v] at hlen; simpa using hlen
 refine Ax 23 Tryz.call28 Tryz.func28 ?_;simp only[go_sem];refine Aa fun _ B=>Ac 2 fun e _=>?_;simp only[go_sem];refine B (Aa fun _ F=>Ac 3 fun _ _=>?_);simp only[go_sem];refine F (Aa fun _ G=>Aa fun _ H=>Ac 1 fun _ _=>?_);simp only[go_sem];refine H (Ai ?_);refine Ay (fun m s=>∃ k,k≤t.kids.length∧m=t.kids.length - k∧((k=0∧Le { env:=[(1,.ptr ⟨e,1,0⟩ 0),(4,dN 0),(3,.sl true [AK t])],σ:=[(⟨e,1,0⟩,.box 28 (exC t))] } s) ∨
   ∃ a i,a≠e∧Le { env:=[(1,.ptr ⟨e,1,0⟩ 0),(4,dN k),(3,.own ⟨a,i,0⟩ (1 + (Be (t.kids.take k)).length))],σ:=[(⟨e,1,0⟩,.box 28 (exC t)),(⟨a,i,0⟩,.arr 28 8 (AK t :: (Be (t.kids.take k)).map AK))] } s)) t.kids.length ?_ ?_
 ·refine ⟨0,dX _,rfl,.inl ⟨rfl,Ao ?_⟩⟩;simp only[go_sem];all_goals first|trivial|omega
 ·rintro m s ⟨k,U,rfl,⟨rfl,n⟩ | ⟨a,i,l,n⟩⟩
  ·refine Az n ?_;clear n;refine Aa fun _ I=>Aa fun _ J=>?_;by_cases b:0 < t.kids.length
   ·have Q : (((0:Nat):Int) < (t.kids.length:Int))=True:=eq_true (by omega);have M:=F3 t.kids 0 b;have R:=Fd t.kids[0];refine Ac 5 fun q u=>?_;simp only[go_sem,Q];refine J (Al (Ae (I (Aa fun _ K=>Ai (Am fun h p T y c o=>Af 6 c ?_)))));simp only[go_sem,getM b];have f:h≠e:=Ar p 1 0 (by simp[go_sem]);refine AA c rfl rfl rfl (ih _ (dP b) (w.2.2.2.2 _ (dP b)) (by omega) _ _) (CoL.refl _) ?_;refine HE c rfl rfl rfl rfl rfl es26 sz28 by28 ze28 rfl (by decide) ?_;simp only[go_sem,EF];refine ⟨R,⟨by omega,by omega⟩,?_⟩;refine Ad 1 c ?_;simp only[go_sem]
    refine o (K (Ac 3 fun z O=>?_));simp only[go_sem];try simp (disch:=omega) only[Au]
    refine ⟨_,?_,1,b,rfl,.inr ⟨h,21,f,Ao ?_⟩⟩
    ·omega
    have j:=DL t.kids 0 b;rw[gG] at j;have A:Be (t.kids.take 1)=AB t.kids[0]:=j;simp only[go_sem,A,f,f.symm];all_goals first|trivial|omega
   ·exact absurd h0 b
  ·refine Az n ?_;clear n;refine Aa fun _ L=>Aa fun _ r=>?_;by_cases b:k < t.kids.length
   ·have M:=F3 t.kids k b;have N:=IS t.kids (k + 1);have j:=DL t.kids k b;rw[j,dQ] at N;refine Ac 5 fun q u=>?_;simp only[go_sem,b,l];refine r (Al (Ae (L (Aa fun _ C=>Ai (Am fun h p T y c o=>Af 6 c ?_)))));simp only[go_sem,getM b,l];refine AA c rfl rfl rfl (ih _ (dP b) (w.2.2.2.2 _ (dP b)) (by omega) _ _) (CoL.refl _) ?_;refine AG c rfl rfl rfl rfl rfl es26 sz28 by28 ze28 rfl (by decide) ?_;simp only[go_sem,EF,l.symm];first | refine ⟨⟨by omega,by omega⟩,?_⟩ | skip
    have f:h≠e:=Ar p 1 0 (by simp[go_sem]);refine Ad 1 c ?_;simp only[go_sem];refine o (C (Ac 3 fun z O=>?_));simp only[go_sem];try simp (disch:=omega) only[Au]
    refine ⟨_,?_,k + 1,b,rfl,.inr ⟨h,21,f,Ao ?_⟩⟩
    ·omega
    simp only[go_sem,j,fU,f,f.symm];all_goals first|trivial|omega
   ·have:k=t.kids.length:=by omega
    subst this;refine Ac 5 fun q u=>?_;simp only[go_sem,b,l];refine r (Aj (Aq (G (Aa fun _ D=>Ac 2 fun _ _=>?_))));simp only[go_sem];refine D (Ah ?_);rw[v];refine DK [⟨a,i,0⟩] rfl ?_;simp only[go_sem,l.symm];exact Co.of_eq (by rw[gq])
def hgt (p:Prg) (n:Nat):Nat:=dmax (tyPr p) 1 * (n + 2)
theorem T0 {p:Prg} (hp:smPr p):∀ t∈tyPr p,okTy t:=by
 have k:∀ s:Sig,smSi s→∀ t∈AP s,okTy t:=fun s g t a=>by
  unfold AP at a;simp only[eu,eh,eg] at a;rcases a with (⟨f,c,rfl⟩ | ⟨f,c,rfl⟩) | rfl
  ·exact smTy.ok _ (g.2.1.2 f c).2
  ·exact smTy.ok _ (g.2.2.1.2 f c).2
  ·exact smTy.ok _ g.2.2.2
 have j:∀ e:Ex,smEx e→∀ t∈Bo e,okTy t:=by
  intro e i t a;unfold Bo at a;obtain ⟨x,b,a⟩:=ez.1 a;have n:∀ e:Ex,smEx e→∀ x∈AB e,smEx x:=by
   refine Ex.ind fun e ih i x b=>?_;rw[BC] at b;rcases eq.1 b with rfl | b
   ·exact i
   ·rw[BF] at b;obtain ⟨y,l,b⟩:=ez.1 b;exact ih y l (((Bd e).1 i).2.2.2.2 y l) x b
  have h:=(Bd x).1 (n e i x b);unfold CN at a;rcases eu.1 a with a | a
  ·exact smTy.ok _ (h.2.2.1.2 t a)
  ·split at a
   ·rw[eg.1 a];exact smTy.ok _ h.2.1
   ·cases a
 intro t a;unfold tyPr at a;rcases eu.1 a with a | a
 ·obtain ⟨d,m,a⟩:=ez.1 a;have h:=hp.1.2 d m;unfold Cm at a;simp only[eu,eh,ez] at a;rcases a with ((⟨f,c,rfl⟩ | ⟨f,c,rfl⟩) | ⟨s,g,a⟩) | a
  ·exact smTy.ok _ (h.2.1.2 f c).2
  ·exact smTy.ok _ (h.2.2.1.2 f c).2
  ·exact k s (h.2.2.2.1.2 s g) t a
  ·split at a
   ·rcases eu.1 a with a | a
    ·exact k _ h.2.2.2.2.2.2.1 t a
    ·exact j _ h.2.2.2.2.2.2.2 t a
   ·cases a
 ·exact j _ hp.2 t a
theorem OK (p:Prg):∀ t∈tyPr p,t∈Bx p:=by
 have b:∀ e:Ex,∀ t∈Bo e,t∈CA e:=by
  intro e t a;obtain ⟨x,f,a⟩:=ez.1 a;refine ez.2 ⟨x,f,?_⟩;unfold CN at a;rcases eu.1 a with a | a
  ·exact ea _ a
  ·split at a
   ·rw[eg.1 a];exact dY
   ·cases a
 intro t a;unfold tyPr at a;unfold Bx;rcases eu.1 a with a | a
 ·obtain ⟨d,c,a⟩:=ez.1 a;refine eI _ (ez.2 ⟨d,c,?_⟩);unfold Cm at a;unfold Bl;simp only[eu] at a ⊢;rcases a with ((a | a) | a) | a
  ·exact .inl (.inl (.inl (.inl a)))
  ·exact .inl (.inl (.inl (.inr a)))
  ·exact .inl (.inl (.inr a))
  ·split at a
   ·rcases eu.1 a with a | a
    ·exact .inl (.inr a)
    ·exact .inr (b _ t a)
   ·cases a
 ·exact eP _ (b _ t a)
theorem QF {p:Prg} (hw:wN (Bx p)≤600):dmax (tyPr p) 1≤600:=by
 refine J0 _ _ _ (by omega) (fun t a=>?_);exact ef (KY t) (ef (DA (OK p t a)) hw)
theorem PZ {p:Prg} {n:Nat} (hw:wN (Bx p)≤600) (hn:n≤1200):hgt p n≤1000000:=by
 have:=QF hw;unfold hgt;exact ef (Nat.mul_le_mul this (show n + 2≤1202 by omega)) (by decide)
set_option maxRecDepth 100000 in
theorem D6 (p:Prg) (hp:smPr p) (hw:wN (Bx p)≤600) (g q:Nat):ACalls E 7 [AZ p] [] g q (dN (hgt p ((Dd p).length + (De p).length))) []:=by
 have M:=Qu p;have v:=T0 hp;have N:=QF hw;have R:=Ik p;have Q:=Il p;have O:=PZ (n:=(Dd p).length + (De p).length) hw (by omega);refine Ax 26 Tryz.call7 Tryz.func7 ?_;simp only[go_sem];refine Aa fun _ y=>Ac 2 fun i _=>?_;simp only[go_sem];refine y (Aa fun _ z=>Am fun d _ _ _ f G=>Af 1 f ?_);simp only[go_sem];refine AA f rfl rfl rfl (R0 p hp (by omega) _ _) (CoL.refl _) ?_;refine Ad 1 f ?_;simp only[go_sem];refine G (z (Aa fun _ A=>Ac 1 fun _ _=>?_));simp only[go_sem];refine A (Aa fun _ B=>Aa fun _ C=>Ac 1 fun _ _=>?_);simp only[go_sem];refine C (Ai ?_)
 refine Ay (fun m s=>∃ k n,k≤(tyPr p).length∧m=(tyPr p).length - k∧dmax ((tyPr p).drop k) n=dmax (tyPr p) 1∧Le { env:=[(1,.ptr ⟨i,1,0⟩ 0),(3,slTy (tyPr p)),(4,dN n),(5,dN k)],σ:=[(⟨i,1,0⟩,.box 30 (prC p))] } s) (tyPr p).length ?_ ?_
 ·refine ⟨0,1,dX _,rfl,rfl,Ao ?_⟩;simp only[go_sem];all_goals first|trivial|omega
 ·rintro m s ⟨k,n,P,rfl,a,u⟩;refine Az u ?_;clear u;refine Aa fun _ D=>Aa fun _ j=>?_;by_cases b:k < (tyPr p).length
  ·have e:=dP b;have t:(AO (tyPr p)[k]).length≤1000000:=ef (DA (OK p _ e)) (by omega);rw[Jl b] at a;refine Ac 4 fun w I=>?_;simp only[go_sem,b];refine j (Al (Ae (D (Aa fun _ l=>Ai (Am fun _ _ _ _ c o=>Af 5 c ?_)))));simp only[go_sem,getM b];by_cases r:n < Br (tyPr p)[k]
   ·have d:((Br (tyPr p)[k]:Int) > (n:Int))=True:=eq_true (by omega);rw[if_pos r] at a;refine Ak c (HN _ (v _ e) t _ _) ?_;refine Ad 2 c ?_;simp only[go_sem,d];refine o (l (Ac 3 fun x J=>?_));simp only[go_sem];try simp (disch:=omega) only[Au]
    refine ⟨_,?_,k + 1,_,b,rfl,a,Ao ?_⟩
    ·omega
    simp only[go_sem];all_goals first|trivial|omega
   ·have d:((Br (tyPr p)[k]:Int) > (n:Int))=False:=eq_false (by omega);rw[if_neg r] at a;refine Ak c (HN _ (v _ e) t _ _) ?_;refine Ad 2 c ?_;simp only[go_sem,d];refine o (l (Ac 3 fun x J=>?_));simp only[go_sem];try simp (disch:=omega) only[Au]
    refine ⟨_,?_,k + 1,_,b,rfl,a,Ao ?_⟩
    ·omega
    simp only[go_sem];all_goals first|trivial|omega
  ·have:k=(tyPr p).length:=by omega
   subst this;rw[eY] at a;have L:n=dmax (tyPr p) 1:=a;have K:(n:Int) * (((Dd p).length + (De p).length:Nat) + 2:Int)=(hgt p ((Dd p).length + (De p).length):Nat):=by
    rw[L]; unfold hgt; push_cast; rfl
   refine Ac 4 fun w I=>?_;simp only[go_sem,b];refine j (Aj (Aq (B (Aa fun _ F=>Am fun _ _ _ _ h H=>Af 2 h ?_))));simp only[go_sem];refine AA h rfl rfl rfl (Sh p hp (by omega) _ _) (CoL.refl _) ?_;refine Ad 3 h ?_;simp only[go_sem];try simp (disch:=omega) only[Au]
   try simp only[go_sem,K]
   try simp (disch:=omega) only[Au,Ba,dZ,ed]
   refine H (F (Ah (Ag ?_)));simp only[go_sem];exact Co.refl _
end Go.Proofs.T
