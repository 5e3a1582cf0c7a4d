/- A part of the proof: ZAU. -/
import Derived.Test.YtnkpcgpmgkaakaaGreatZAT
namespace Go.Proofs.T
open Go Go.Ab Go.RowKit
theorem RB {x:Ty} (hx:smTy x) (r:Rz):smTy (FY x r).1:=by
 unfold FY;split
 ·exact CH
 ·exact hx
theorem Kg {p:Prg} (h:smPr p) {x:Ty} (hx:smTy x):∀ q∈fldX p x,smPa q:=abA (E2 h x.name) ((Bi x).1 hx).2.2
theorem OE {p:Prg} (h:smPr p) (x:Ty):(fldX p x).length≤1000000:=by
 unfold fldX JU;rw[ei];exact (E2 h x.name).2.2.1.1
theorem Kh (c:Cx) (hc:smCx c):∀ e:Ex,smEx e→smTy (inf c e).1:=by
 refine Ex.ind fun e ih j=>?_;obtain ⟨w,h,⟨y,s⟩,z,t⟩:=(Bd e).1 j;rw[PT];unfold Fg;split
 ·split
  ·rename_i b;obtain ⟨q,a,_,rfl⟩:=GO b;exact (hc.2.2.2 q a).2
  ·exact CH
 ·split
  ·unfold litR;split
   ·exact CH
   ·split
    ·exact CH
    ·split
     ·exact CH
     ·exact h
  ·split
   ·exact CH
   ·cases m:e.kids with
    | nil=>exact CH
    | cons e0 v =>
     have g:e0∈e.kids:=by rw[m]; exact dY
     have d:=ih e0 g (t e0 g);simp only[eM];unfold Nf kn;simp only;generalize inf c e0=u at *;obtain ⟨x,r⟩:=u;split
     ·exact d
     ·split
      ·unfold Nc;split
       ·exact CH
       ·rename_i i l;have n:=(Ha hc.1 hc.2.1.2 d).2;have f:=Gn l;have k:(Bq c.p c.env x).getD i Bw=(Bq c.p c.env x)[i]:=by rw[fl,dO f]; rfl
        rw[k];have o:=n _ (dP f);unfold Nb;split
        ·exact CH
        ·split
         ·exact CH
         ·split
          ·exact CH
          ·split
           ·exact CH
           ·exact RB (Bp s _ o.2.2.2) _
      ·split
       ·unfold PR;split
        ·exact CH
        ·split
         ·rename_i b;obtain ⟨q,a,_,rfl⟩:=GO b;exact RB (Kg hc.1 d q a).2 _
         ·exact CH
       ·unfold PS;split
        ·exact CH
        ·split
         ·exact CH
         ·exact h
theorem My {p:Prg} {x:Ty} {k:Int} (hk:k≠0) (h:BN p x k=true):∃ j,CF p x.name=some j:=by
 cases a:CF p x.name with
 | some j=>exact ⟨j,rfl⟩
 | none =>
  unfold BN AU at h;rw[ED a] at h;simp[BM,hk.symm] at h
theorem WJ {l:List Formal} {t:Ty} (h:0≤Ci l t):∃ i,i < l.length∧Ci l t=(i:Int):=by
 unfold Ci at h ⊢;split at h
 ·rename_i h0;rw[if_pos h0];cases a:l.findIdx? fun f=>isS t.name f.name with
  | none=>rw[a] at h; simp[optI] at h
  | some i=>exact ⟨i,(eU.1 a).1,rfl⟩
 ·omega
set_option maxRecDepth 100000 in
set_option maxHeartbeats 4000000 in
theorem IZ (c:Cx) (hc:smCx c):∀ e:Ex,smEx e→InfC c e:=by
 refine Ex.ind fun e ih he g d=>?_;obtain ⟨s1,U,⟨s3,s4⟩,s5,s6⟩:=(Bd e).1 he;have b:=PT c e;have dV:=hc.2.2.1;refine Ax 249 Tryz.call39 Tryz.func39 ?_;simp only[go_sem];refine Aa fun _ c5=>Ac 4 fun o _=>?_;simp only[go_sem];refine c5 (Aa fun _ bk=>Aa fun _ aK=>?_);by_cases k1:e.kind=1
 ·unfold Fg at b;rw[if_pos k1] at b;refine Ac 3 fun g1 bD=>?_;simp only[go_sem,k1];refine aK (Al (Aa fun _ cs=>Aa fun _ cA=>Ac 1 fun _ _=>?_));simp only[go_sem];refine cA (Ai ?_);refine Ay (fun m st=>∃ k,k≤c.vars.length∧m=c.vars.length - k∧DR c.vars e.name=DR (c.vars.drop k) e.name∧Le { env:=[(2,.ptr ⟨o,2,0⟩ 0),(3,.ptr ⟨o,3,0⟩ 0),(4,.ptr ⟨o,4,0⟩ 0),(5,.ptr ⟨o,5,0⟩ 0),(6,dN k)],σ:=[(⟨o,2,0⟩,.box 72 (cxC c)),(⟨o,3,0⟩,.box 28 (exC e)),(⟨o,4,0⟩,.box 25 [.val (.string ByteArray.empty),.val (.slice none 0 0),dI 0]),(⟨o,5,0⟩,.box 52 (rC okR))] } st) c.vars.length ?_ ?_
  ·refine ⟨0,dX _,rfl,rfl,Ao ?_⟩;simp only[go_sem,okR];all_goals first|trivial|omega
  ·rintro m st ⟨k,dA,rfl,hb,af⟩;refine Az af ?_;clear af;refine Aa fun _ cJ=>Aa fun _ bs=>?_;by_cases C:k < c.vars.length
   ·have B:=@NX c.vars e.name k C;have a0:=getM (f:=Bt) C;generalize c.vars[k]=V at *;refine Ac 5 fun g3 ds=>?_;simp only[go_sem,C,okR];refine bs (Al (Ae (cJ (Aa fun _ cY=>Ai (Aa fun _ bv=>?_)))));by_cases N:V.name=e.name
    ·rw[if_pos N] at B;rw[hb,B] at b;refine AE fun g5 dx dM bR b8 aO=>Ap 9 b8 ?_;simp only[go_sem,a0,N];refine aO (bv (Al (Aa fun _ c6=>Ac 9 fun _ _=>?_)));simp only[go_sem,a0];refine c6 (Ah ?_);rw[b];refine Ag ?_;simp only[go_sem,trD,okR];exact Co.refl _
    ·rw[if_neg N] at B;refine AE fun g5 dx dM bR b8 aO=>Ap 9 b8 ?_;simp only[go_sem,a0,N];refine aO (bv (Aj (Ae (cY (Ac 3 fun _ _=>?_)))));simp only[go_sem,okR];try simp (disch:=omega) only[Au]
     refine ⟨_,?_,k + 1,C,rfl,hb.trans B,Ao ?_⟩
     ·omega
     simp only[go_sem];all_goals first|trivial|omega
   ·have:k=c.vars.length:=by omega
    subst this;rw[eY,DR] at hb;rw[hb] at b;refine Ac 5 fun g3 ds=>?_;simp only[go_sem,C,okR];refine bs (Aj (Aq (cs (Aa fun _ c7=>Am fun _ _ _ _ b9 di=>Af 2 b9 ?_))));simp only[go_sem];refine Ak b9 (BD _ _ _) ?_;refine Ad 4 b9 ?_;simp only[go_sem,trD,noR,badR];refine di (c7 (Ah ?_));rw[b];refine Ag ?_;simp only[go_sem,trD,noR,badR];exact Co.refl _
 ·by_cases k3:e.kind=3
  ·have dD:inf c e=litR c e.type e.pos (e.kids.map (kn c)):=by
    rw[b];unfold Fg;rw[if_neg k1,if_pos k3]
   clear b;rename _=>b;unfold litR at b;rw[ei] at b;have ab:=Ei c.p hc.1 c.env hc.2.1.1 hc.2.1.2 e.type U;refine Ac 3 fun g1 bD=>?_;simp only[go_sem,k1];refine aK (Aj (Ae (bk (Aa fun _ _=>Aa fun _ c8=>Ac 3 fun g8 dy=>?_))));simp only[go_sem,k3];refine c8 (Al (Aa fun _ bj=>Am fun _ _ _ _ ak bA=>Af 6 ak ?_));simp only[go_sem];cases P:BR c.p c.env e.type with
   | some j =>
    rw[P] at b;refine Ak ak (ab _ _) ?_;refine Ad 5 ak ?_;simp only[go_sem,P,chkD];refine bA (bj (Aa fun _ _=>Aa fun _ c9=>Ac 1 fun bS dm=>?_));simp only[go_sem];refine c9 (Al (Aa fun _ ca=>Am fun _ _ _ _ b1 da=>Af 1 b1 ?_));simp only[go_sem];refine Ak b1 (BD _ _ _) ?_;refine Ad 4 b1 ?_;simp only[go_sem,trD,noR,badR];refine da (ca (Ah ?_));rw[b];refine Ag ?_;simp only[go_sem,trD,noR,badR];exact Co.refl _
   | none =>
    rw[P] at b;refine Ak ak (ab _ _) ?_;refine Ad 5 ak ?_;simp only[go_sem,P,chkD];refine bA (bj (Aa fun _ cb=>Aa fun _ cc=>Ac 1 fun bS dm=>?_));simp only[go_sem];refine cc (Aj (Ae (cb (Aa fun _ cd=>Aa fun _ aI=>AE fun _ _ _ _ O aL=>Av 3 O ?_))));simp only[go_sem];have bH:=HO c hc e.type U;cases w:GM c e.type with
    | false =>
     simp only[w,if_true] at b;refine Aw O (bH _ _) ?_;refine Ap 13 O ?_;simp only[go_sem,w];refine aL (aI (Al (Aa fun _ ce=>Am fun bT dn dJ bO a1 aM=>Af 2 a1 ?_)));simp only[go_sem];refine Ak a1 (BD _ _ _) ?_;refine Ad 4 a1 ?_;simp only[go_sem,trD,noR,badR];refine aM (ce (Ah ?_));rw[b];refine Ag ?_;simp only[go_sem,trD,noR,badR];exact Co.refl _
    | true =>
     simp only[w,Bool.true_eq_false,if_false] at b;have aV:BN c.p e.type 1=true:=by
      unfold GM at w;rw[ej] at w;exact w.2
     obtain ⟨j,hj⟩:=My (by decide) aV;have Z:=GA c.p hc.1 e.type U j hj;change ∀ g d,ACalls E _ _ _ g d (slPa (fldX c.p e.type)) _ at Z;have aQ:=Kg hc.1 U;have dl:=OE hc.1 e.type;generalize fldX c.p e.type=F at *;refine Aw O (bH _ _) ?_;refine Av 6 O ?_;simp only[go_sem,w];by_cases hl:F.length=e.kids.length
     ·have aY:(F.length:Int)=(e.kids.length:Int):=by omega
      rw[if_neg (by simp[hl])] at b;have z:=NZ c hc e.kids s5 (fun x S=>ih x S (s6 x S)) (fun x S=>Kh c hc x (s6 x S)) F aQ (by omega) [] [] (by simp) (fun _ h=>nomatch h);refine Aw O (Z _ _) ?_;refine Ap 6 O ?_;simp only[go_sem,aY];refine aL (aI (Aj (Ae (cd (Aa fun _ cf=>AF 11 fun _ _ _ _ ag db=>Av 9 ag ?_)))));simp only[go_sem];refine Aw ag (Z _ _) ?_;refine AI ag rfl rfl rfl (z _ _) (.cons (.refl _) (.cons (.refl _) (.cons (.refl _) (.cons (.nil _) (.cons (.nil _) .nil))))) rfl ?_;refine Ap 0 ag ?_;simp only[go_sem];refine Ad 2 ag ?_;simp only[go_sem];refine db (cf (Ah ?_));rw[b]
      refine Ag ?_;simp only[go_sem,trD];exact Co.refl _
     ·have aY:¬ (F.length:Int)=(e.kids.length:Int):=by omega
      rw[if_pos hl] at b;refine Aw O (Z _ _) ?_;refine Ap 6 O ?_;simp only[go_sem,aY];refine aL (aI (Al (Aa fun _ cg=>Am fun bT dn dJ bO a1 aM=>Af 2 a1 ?_)));simp only[go_sem];refine Ak a1 (BD _ _ _) ?_;refine Ad 4 a1 ?_;simp only[go_sem,trD,noR,badR];refine aM (cg (Ah ?_));rw[b];refine Ag ?_;simp only[go_sem,trD,noR,badR];exact Co.refl _
  ·have dD:inf c e=if e.kind≠2∧e.kind≠4∧e.kind≠5 then noR e.pos else match e.kids.map (kn c) with
     | []=>noR e.pos
     | q :: an=>Nf c e.kind e.name e.type e.targs e.pos q an:=by
    rw[b];unfold Fg;rw[if_neg k1,if_neg k3]
    rfl
   clear b;rename _=>b;refine Ac 3 fun g1 bD=>?_;simp only[go_sem,k1];refine aK (Aj (Ae (bk (Aa fun _ ch=>Aa fun _ ci=>Ac 3 fun g8 dy=>?_))));simp only[go_sem,k3];refine ci (Aj (Ae (ch (Aa fun _ aJ=>Aa fun _ W=>?_))));by_cases t:e.kind=2∨e.kind=4∨e.kind=5
   ·rw[if_neg (by omega)] at b;obtain ⟨KL,z⟩:∃ L,e.kids=L:=⟨_,rfl⟩
    cases KL with
    | nil =>
     rw[z,f9] at b;simp only at b;have dU:(e.kids.length:Int)=0:=by rw[z]; rfl
     have hz:(e.kids.map AK).length=0:=by rw[z]; rfl
     rcases t with t | t | t
     ·refine Ac 19 fun a3 a4=>?_;simp only[go_sem,t,z,ii];refine W (Al (Aa fun _ cj=>Am fun aF aR ba aD u X=>Af 2 u ?_));simp only[go_sem];refine Ak u (BD _ _ _) ?_;refine Ad 4 u ?_;simp only[go_sem,trD,noR,badR];refine X (cj (Ah ?_));rw[b];refine Ag ?_;simp only[go_sem,trD,noR,badR];exact Co.refl _
     ·refine Ac 19 fun a3 a4=>?_;simp only[go_sem,t,z,ii];refine W (Al (Aa fun _ ck=>Am fun aF aR ba aD u X=>Af 2 u ?_));simp only[go_sem];refine Ak u (BD _ _ _) ?_;refine Ad 4 u ?_;simp only[go_sem,trD,noR,badR];refine X (ck (Ah ?_));rw[b];refine Ag ?_;simp only[go_sem,trD,noR,badR];exact Co.refl _
     ·refine Ac 19 fun a3 a4=>?_;simp only[go_sem,t,z,ii];refine W (Al (Aa fun _ cl=>Am fun aF aR ba aD u X=>Af 2 u ?_));simp only[go_sem];refine Ak u (BD _ _ _) ?_;refine Ad 4 u ?_;simp only[go_sem,trD,noR,badR];refine X (cl (Ah ?_));rw[b];refine Ag ?_;simp only[go_sem,trD,noR,badR];exact Co.refl _
    | cons e0 an =>
     rw[z,eM] at b;simp only at b;have aZ:e0∈e.kids:=by rw[z]; exact dY
     have b0:∀ x∈an,x∈e.kids:=fun x S=>by rw[z]; exact ea _ S
     have av:InfC c e0:=ih e0 aZ (s6 e0 aZ);have Q:smTy (inf c e0).1:=Kh c hc e0 (s6 e0 aZ);have dk:=fun x S=>UZ c hc e e0 an z he (fun y hy=>ih y (b0 y hy) (s6 y (b0 y hy))) (fun y hy=>Kh c hc y (s6 y (b0 y hy))) x S;have dT:0 < e.kids.length:=by rw[z]; exact iq _
     have aT:at? (e.kids.map AK) 0=some (AK e0):=by rw[z]; rfl
     have aX:((e.kids.length:Int)=0)=False:=eq_false (by omega);have dS:((0:Int) < (e.kids.length:Int))=True:=eq_true (by omega);unfold InfC at av;have dC:kn c e0=⟨e0.pos,(inf c e0).1,(inf c e0).2⟩:=rfl;unfold Nf at b;rw[dC] at b;simp only at b;generalize an.map (kn c)=KS at *;generalize inf c e0=xr at *;obtain ⟨x,rp,rb,rl⟩:=xr;simp only at b Q;rcases t with t | t | t
     ·have T:=eq_true t;refine Ac 19 fun a3 a4=>?_;simp only[go_sem,T,aX];refine W (Aj (Ae (aJ (Aa fun _ cm=>?_))));refine Kept.awp_anyT 12 [0,0,2,6,14,31,63,127,127,0,0,1791,4095] (by kernel_rfl) (by kernel_rfl) (by kernel_rfl) rfl (fun D ac bJ bd s a9=>?_);refine Kept.qrunT_eval 5 s rfl ?_;simp only[go_sem,aT];refine Kept.qrunT_pure s rfl rfl rfl (av _ _) (CoL.refl _) rfl ?_;refine Kept.qrunT_eval 5 s rfl ?_;simp only[go_sem,trD,trD];refine Kept.Ij s rfl rfl rfl ⟨D,9,0⟩ rfl rfl ?_;simp only[go_sem];refine Kept.qrunT_last 0 s rfl ?_;simp only[go_sem];refine Ad 1 s ?_
      simp only[go_sem];refine a9 _ (cm (Aa fun _ cn=>Aa fun _ bl=>?_));have a:D≠o:=Ar ac 2 0 (by simp[go_sem]);cases rb with
      | true =>
       rw[if_pos rfl] at b;refine Ac 2 fun a7 ad=>?_;simp only[go_sem,a.symm];refine bl (Al (Aa fun _ co=>?_));refine D1 2 ⟨o,4,0⟩ rfl rfl rfl rfl (by kernel_rfl) rfl ?_;simp only[go_sem,a];intro bg bE bK be R aa;refine Ap 2 R ?_;simp only[go_sem,a.symm];refine Ad 1 R ?_;simp only[go_sem,a];refine aa _ (co (Ah ?_));rw[b];refine Ag ?_;simp only[go_sem,trD,a];exact Co.refl _
      | false =>
       rw[if_neg (by simp),if_pos t] at b;refine Ac 2 fun a7 ad=>?_;simp only[go_sem,a.symm];refine bl (Aj (Ae (cn (Aa fun _ _=>Aa fun _ cp=>Ac 3 fun bh bF=>?_))));simp only[go_sem,T,a];refine cp (Al (Aa fun _ cq=>Am fun _ _ _ _ b2 dc=>Af 3 b2 ?_));simp only[go_sem,a,a.symm];refine Ak b2 (dk x Q _ _) ?_;refine Ad 4 b2 ?_;simp only[go_sem,trD,a];refine dc (cq (Ah ?_));rw[b];refine Ag ?_;simp only[go_sem,trD,a];exact Co.refl _
     ·have T:(e.kind=2)=False:=eq_false (by omega);have q4:=eq_true t;refine Ac 19 fun a3 a4=>?_;simp only[go_sem,T,q4,aX];refine W (Aj (Ae (aJ (Aa fun _ cr=>?_))));refine Kept.awp_anyT 12 [0,0,2,6,14,31,63,127,127,0,0,1791,4095] (by kernel_rfl) (by kernel_rfl) (by kernel_rfl) rfl (fun D ac bJ bd s a9=>?_);refine Kept.qrunT_eval 5 s rfl ?_;simp only[go_sem,aT];refine Kept.qrunT_pure s rfl rfl rfl (av _ _) (CoL.refl _) rfl ?_;refine Kept.qrunT_eval 5 s rfl ?_;simp only[go_sem,trD,trD];refine Kept.Ij s rfl rfl rfl ⟨D,9,0⟩ rfl rfl ?_;simp only[go_sem];refine Kept.qrunT_last 0 s rfl ?_
      simp only[go_sem];refine Ad 1 s ?_;simp only[go_sem];refine a9 _ (cr (Aa fun _ ct=>Aa fun _ bm=>?_));have a:D≠o:=Ar ac 2 0 (by simp[go_sem]);cases rb with
      | true =>
       rw[if_pos rfl] at b;refine Ac 2 fun a7 ad=>?_;simp only[go_sem,a.symm];refine bm (Al (Aa fun _ cu=>?_));refine D1 2 ⟨o,4,0⟩ rfl rfl rfl rfl (by kernel_rfl) rfl ?_;simp only[go_sem,a];intro bg bE bK be R aa;refine Ap 2 R ?_;simp only[go_sem,a.symm];refine Ad 1 R ?_;simp only[go_sem,a];refine aa _ (cu (Ah ?_));rw[b];refine Ag ?_;simp only[go_sem,trD,a];exact Co.refl _
      | false =>
       rw[if_neg (by simp),if_neg (by omega),if_pos t] at b;unfold PR at b;refine Ac 2 fun a7 ad=>?_;simp only[go_sem,a.symm];refine bm (Aj (Ae (ct (Aa fun _ cv=>Aa fun _ cw=>Ac 3 fun bh bF=>?_))));simp only[go_sem,T,a];refine cw (Aj (Ae (cv (Aa fun _ _=>Aa fun _ cx=>Ac 3 fun bU dp=>?_))));simp only[go_sem,q4,a];refine cx (Al (Aa fun _ cy=>Aa fun _ bn=>Am fun _ _ _ _ ah bw=>Af 2 ah ?_));simp only[go_sem,a,a.symm];cases w:GM c x with
       | false =>
        simp only[w,if_true] at b;refine Ak ah (HO c hc x Q _ _) ?_;refine Ad 1 ah ?_;simp only[go_sem,w];refine bw (bn (Al (Aa fun _ cz=>Am fun _ _ _ _ b3 dd=>Af 2 b3 ?_)));simp only[go_sem,a];refine Ak b3 (BD _ _ _) ?_;refine Ad 4 b3 ?_;simp only[go_sem,trD,noR,badR,a];refine dd (cz (Ah ?_));rw[b];refine Ag ?_;simp only[go_sem,trD,noR,badR,a];exact Co.refl _
       | true =>
        simp only[w,Bool.true_eq_false,if_false] at b;have aV:BN c.p x 1=true:=by
         unfold GM at w;rw[ej] at w;exact w.2
        obtain ⟨j,hj⟩:=My (by decide) aV;have Z:=GA c.p hc.1 x Q j hj;change ∀ g d,ACalls E _ _ _ g d (slPa (fldX c.p x)) _ at Z;have aQ:=Kg hc.1 Q;have dl:=OE hc.1 x;generalize fldX c.p x=F at *;refine Ak ah (HO c hc x Q _ _) ?_;refine Ad 1 ah ?_;simp only[go_sem,w];refine bw (bn (Aj (Ae (cy (Aa fun _ cB=>Am fun _ _ _ _ b4 de=>Af 3 b4 ?_)))));simp only[go_sem,a,a.symm];refine Ak b4 (Z _ _) ?_;refine Ad 1 b4 ?_;simp only[go_sem];refine de (cB (Aa fun _ cC=>Aa fun _ cD=>Ac 1 fun _ _=>?_));simp only[go_sem];refine cD (Ai ?_)
        refine Ay (fun m st=>∃ k,k≤F.length∧m=F.length - k∧DR F e.name=DR (F.drop k) e.name∧Le { env:=[(3,.ptr ⟨o,3,0⟩ 0),(4,.ptr ⟨o,4,0⟩ 0),(5,.ptr ⟨o,5,0⟩ 0),(10,.ptr ⟨D,10,0⟩ 0),(11,slPa F),(12,dN k)],σ:=[(⟨o,3,0⟩,.box 28 (exC e)),(⟨o,4,0⟩,.box 25 [.val (.string ByteArray.empty),.val (.slice none 0 0),dI 0]),(⟨o,5,0⟩,.box 52 (rC okR)),(⟨D,10,0⟩,.box 52 [dI rp,dB false,dB rl])] } st) F.length ?_ ?_
        ·refine ⟨0,dX _,rfl,rfl,Ao ?_⟩;simp only[go_sem,okR,a,a.symm];all_goals first|trivial|omega
        ·rintro m st ⟨k,dA,rfl,ax,af⟩;refine Az af ?_;clear af;refine Aa fun _ cE=>Aa fun _ bo=>?_;by_cases C:k < F.length
         ·have B:=@NX F e.name k C;have a0:=getM (f:=Bt) C;have dE:=(aQ _ (dP C)).2;generalize F[k]=V at *;refine Ac 4 fun bV dq=>?_;simp only[go_sem,C,okR];refine bo (Al (Ae (cE (Aa fun _ cF=>Ai (Aa fun _ bp=>?_)))));by_cases N:V.name=e.name
          ·rw[if_pos N] at B;rw[ax,B] at b;simp only at b;refine AE fun bW dr dK bP b5 aN=>Ap 8 b5 ?_;simp only[go_sem,a0,N,a];refine aN (bp (Al (Aa fun _ cG=>AF 9 fun _ _ _ _ az df=>Av 6 az ?_)));simp only[go_sem,a0,a.symm];refine Aw az (LC V.type ⟨rp,false,rl⟩ dE _ _) ?_;refine Ap 2 az ?_;simp only[go_sem,trD,trD];refine Ad 2 az ?_;simp only[go_sem,a];refine df (cG (Ah ?_));rw[b];refine Ag ?_;simp only[go_sem,trD,a];exact Co.refl _
          ·rw[if_neg N] at B;refine AE fun bW dr dK bP b5 aN=>Ap 8 b5 ?_;simp only[go_sem,a0,N,a];refine aN (bp (Aj (Ae (cF (Ac 3 fun _ _=>?_)))));simp only[go_sem,okR];try simp (disch:=omega) only[Au]
           refine ⟨_,?_,k + 1,C,rfl,ax.trans B,Ao ?_⟩
           ·omega
           simp only[go_sem,a,a.symm];all_goals first|trivial|omega
         ·have:k=F.length:=by omega
          subst this;rw[eY,DR] at ax;rw[ax] at b;refine Ac 4 fun bV dq=>?_;simp only[go_sem,C,okR];refine bo (Aj (Aq (cC (Aa fun _ cH=>Am fun _ _ _ _ b6 dg=>Af 2 b6 ?_))));simp only[go_sem,a];refine Ak b6 (BD _ _ _) ?_;refine Ad 4 b6 ?_;simp only[go_sem,trD,noR,badR,a];refine dg (cH (Ah ?_));rw[b];refine Ag ?_;simp only[go_sem,trD,noR,badR,a];exact Co.refl _
     ·have T:(e.kind=2)=False:=eq_false (by omega);have q4:(e.kind=4)=False:=eq_false (by omega);have q5:=eq_true t;refine Ac 19 fun a3 a4=>?_;simp only[go_sem,T,q4,q5,aX];refine W (Aj (Ae (aJ (Aa fun _ cI=>?_))));refine Kept.awp_anyT 12 [0,0,2,6,14,31,63,127,127,0,0,1791,4095] (by kernel_rfl) (by kernel_rfl) (by kernel_rfl) rfl (fun D ac bJ bd s a9=>?_);refine Kept.qrunT_eval 5 s rfl ?_;simp only[go_sem,aT];refine Kept.qrunT_pure s rfl rfl rfl (av _ _) (CoL.refl _) rfl ?_;refine Kept.qrunT_eval 5 s rfl ?_;simp only[go_sem,trD,trD];refine Kept.Ij s rfl rfl rfl ⟨D,9,0⟩ rfl rfl ?_
      simp only[go_sem];refine Kept.qrunT_last 0 s rfl ?_;simp only[go_sem];refine Ad 1 s ?_;simp only[go_sem];refine a9 _ (cI (Aa fun _ cK=>Aa fun _ bq=>?_));have a:D≠o:=Ar ac 2 0 (by simp[go_sem]);cases rb with
      | true =>
       rw[if_pos rfl] at b;refine Ac 2 fun a7 ad=>?_;simp only[go_sem,a.symm];refine bq (Al (Aa fun _ cL=>?_));refine D1 2 ⟨o,4,0⟩ rfl rfl rfl rfl (by kernel_rfl) rfl ?_;simp only[go_sem,a];intro bg bE bK be R aa;refine Ap 2 R ?_;simp only[go_sem,a.symm];refine Ad 1 R ?_;simp only[go_sem,a];refine aa _ (cL (Ah ?_));rw[b];refine Ag ?_;simp only[go_sem,trD,a];exact Co.refl _
      | false =>
       rw[if_neg (by simp),if_neg (by omega),if_neg (by omega)] at b;unfold PS at b;have ab:=Ei c.p hc.1 c.env hc.2.1.1 hc.2.1.2 e.type U;refine Ac 2 fun a7 ad=>?_;simp only[go_sem,a.symm];refine bq (Aj (Ae (cK (Aa fun _ cM=>Aa fun _ cN=>Ac 3 fun bh bF=>?_))));simp only[go_sem,T,a];refine cN (Aj (Ae (cM (Aa fun _ cO=>Aa fun _ cP=>Ac 3 fun bU dp=>?_))));simp only[go_sem,q4,a];refine cP (Aj (Ae (cO (Aa fun _ br=>Am fun _ _ _ _ ai bx=>Af 6 ai ?_))));simp only[go_sem,a];cases P:BR c.p c.env e.type with
       | some j =>
        rw[P] at b;simp only at b;refine Ak ai (ab _ _) ?_;refine Ad 5 ai ?_;simp only[go_sem,P,chkD];refine bx (br (Aa fun _ _=>Aa fun _ cQ=>Ac 1 fun bY dt=>?_));simp only[go_sem];refine cQ (Al (Aa fun _ cR=>Am fun _ _ _ _ b7 dh=>Af 1 b7 ?_));simp only[go_sem];refine Ak b7 (BD _ _ _) ?_;refine Ad 4 b7 ?_;simp only[go_sem,trD,noR,badR,a];refine dh (cR (Ah ?_));rw[b];refine Ag ?_;simp only[go_sem,trD,noR,badR,a];exact Co.refl _
       | none =>
        rw[P] at b;simp only at b;refine Ak ai (ab _ _) ?_;refine Ad 5 ai ?_;simp only[go_sem,P,chkD];refine bx (br (Aa fun _ cS=>Aa fun _ cT=>Ac 1 fun bY dt=>?_));simp only[go_sem];refine cT (Aj (Ae (cS (Aa fun _ a8=>Aa fun _ bt=>?_))));cases B:c.strict with
        | false =>
         simp only[B,fb,false_and,if_false] at b;refine Ac 2 fun bZ du=>?_;simp only[go_sem,a];refine bt (Aj (Ae (a8 (Aa fun _ cU=>?_))));refine D1 3 ⟨o,4,0⟩ rfl rfl rfl rfl (by kernel_rfl) rfl ?_;simp only[go_sem,a];intro aq ay aC ap A M;refine Ap 3 A ?_;simp only[go_sem,a,a.symm];refine Ad 1 A ?_;simp only[go_sem,a];refine M _ (cU (Ah ?_));rw[b];refine Ag ?_;simp only[go_sem,trD,a];exact Co.refl _
        | true =>
         simp only[B,true_and] at b;have aP:=FE c.env x (by have:=hc.2.1.1; omega) Q.ok;change ∀ g d,ACalls E _ _ _ g d (dI (Ci c.env x)) _ at aP;have dR:=hc.2.1.1;have a2:=LB c hc x Q;have al:=LB c hc e.type U;simp only[go_sem,B] at a2 al;have r:VF c x e.type=(!GN c x || (!GN c e.type && !Dr c.p c.env e.type (bndT c x))):=rfl;refine Ac 2 fun bZ du=>?_;simp only[go_sem,a];refine bt (Al (Aa fun _ cV=>Ac 3 fun bi bG=>?_));simp only[go_sem,a.symm];refine cV (Aa fun _ bu=>?_);have l:bi≠o:=Ar bG 2 0 (by simp[go_sem,a]);have H:bi≠D:=Ar bG 10 0 (by simp[go_sem])
         refine Am fun _ _ _ _ aj bz=>Af 3 aj ?_;simp only[go_sem,a,a.symm,l,H];by_cases h0:0≤Ci c.env x
         ·obtain ⟨i,hi,bC⟩:=WJ h0;have dz:=getM (f:=Bz) hi;have hB:bndT c x=c.env[i].bound:=by
           unfold bndT;rw[if_pos h0,bC,gw,dO hi]
           rfl
          have dj:=(hc.2.1.2 _ (dP hi)).2;rw[hB] at r;have ae:=EK c.p hc.1 c.env hc.2.1.1 hc.2.1.2 e.type c.env[i].bound U dj;have c4:((0:Int)≤(i:Int))=True:=eq_true (by omega);refine Ak aj (aP _ _) ?_;refine Ad 1 aj ?_;simp only[go_sem,bC];refine bz (bu (Aa fun _ cW=>Aa fun _ cX=>Ac 2 fun c0 dv=>?_));simp only[go_sem,c4];refine cX (Al (Ac 7 fun _ _=>?_));simp only[go_sem,dz,a,l,l.symm,H.symm];refine cW (Aa fun _ ar=>Am fun c1 dw dL bQ n K=>Af 2 n ?_);simp only[go_sem,a,a.symm,l,H];cases G:GN c x with
          | false =>
           rw[G] at r;simp only[r,f7,gR,if_true] at b;refine Ak n (a2 _ _) ?_;refine Ad 19 n ?_;simp only[go_sem,G];refine K (ar (Al (Aa fun _ cZ=>Am fun aG aS bb aE v Y=>Af 2 v ?_)));simp only[go_sem,a,l];refine Ak v (BD _ _ _) ?_;refine Ad 4 v ?_;simp only[go_sem,trD,noR,badR,a,l];refine Y (cZ (Ah ?_));rw[b];refine Ag ?_;simp only[go_sem,trD,noR,badR,a,l];exact Co.refl _
          | true =>
           rw[G] at r;cases I:GN c e.type with
           | true =>
            rw[I] at r;simp only[r,fQ,fc,fL,fb,if_false] at b;refine Ak n (a2 _ _) ?_;refine Af 5 n ?_;simp only[go_sem,G,a,l];refine Ak n (al _ _) ?_;refine Ad 13 n ?_;simp only[go_sem,I];refine K (ar (Aj (Ae (a8 (Aa fun _ d0=>?_)))));refine D1 3 ⟨o,4,0⟩ rfl rfl rfl rfl (by kernel_rfl) rfl ?_;simp only[go_sem,a,l];intro aq ay aC ap A M;refine Ap 3 A ?_;simp only[go_sem,a,a.symm,l,H];refine Ad 1 A ?_;simp only[go_sem,a,l];refine M _ (d0 (Ah ?_));rw[b];refine Ag ?_;simp only[go_sem,trD,a,l];exact Co.refl _
           | false =>
            rw[I] at r;refine Ak n (a2 _ _) ?_;refine Af 5 n ?_;simp only[go_sem,G,a,l];refine Ak n (al _ _) ?_;refine Af 9 n ?_;simp only[go_sem,I,a,l,l.symm,H.symm];cases J:Dr c.p c.env e.type (c.env[i].bound) with
            | true =>
             rw[J] at r;simp only[r,fQ,f7,fN,fL,fb,if_false] at b;refine Ak n (ae _ _) ?_;refine Ad 3 n ?_;simp only[go_sem,J];refine K (ar (Aj (Ae (a8 (Aa fun _ d1=>?_)))));refine D1 3 ⟨o,4,0⟩ rfl rfl rfl rfl (by kernel_rfl) rfl ?_;simp only[go_sem,a,l];intro aq ay aC ap A M;refine Ap 3 A ?_;simp only[go_sem,a,a.symm,l,H];refine Ad 1 A ?_;simp only[go_sem,a,l];refine M _ (d1 (Ah ?_));rw[b];refine Ag ?_;simp only[go_sem,trD,a,l];exact Co.refl _
            | false =>
             rw[J] at r;simp only[r,fQ,f7,gL,fL,if_true] at b;refine Ak n (ae _ _) ?_;refine Ad 3 n ?_;simp only[go_sem,J];refine K (ar (Al (Aa fun _ d2=>Am fun aG aS bb aE v Y=>Af 2 v ?_)));simp only[go_sem,a,l];refine Ak v (BD _ _ _) ?_;refine Ad 4 v ?_;simp only[go_sem,trD,noR,badR,a,l];refine Y (d2 (Ah ?_));rw[b];refine Ag ?_;simp only[go_sem,trD,noR,badR,a,l];exact Co.refl _
         ·have hB:bndT c x=x:=by
           unfold bndT;rw[if_neg h0]
          rw[hB] at r;have ae:=EK c.p hc.1 c.env hc.2.1.1 hc.2.1.2 e.type x U Q;refine Ak aj (aP _ _) ?_;refine Ad 1 aj ?_;simp only[go_sem];refine bz (bu (Aa fun _ d3=>Aa fun _ d4=>Ac 2 fun c0 dv=>?_));simp only[go_sem,h0];refine d4 (Aj (Ae (d3 (Aa fun _ au=>Am fun c1 dw dL bQ n K=>Af 2 n ?_))));simp only[go_sem,a,a.symm,l,H];cases G:GN c x with
          | false =>
           rw[G] at r;simp only[r,f7,gR,if_true] at b;refine Ak n (a2 _ _) ?_;refine Ad 19 n ?_;simp only[go_sem,G];refine K (au (Al (Aa fun _ d5=>Am fun aG aS bb aE v Y=>Af 2 v ?_)));simp only[go_sem,a,l];refine Ak v (BD _ _ _) ?_;refine Ad 4 v ?_;simp only[go_sem,trD,noR,badR,a,l];refine Y (d5 (Ah ?_));rw[b];refine Ag ?_;simp only[go_sem,trD,noR,badR,a,l];exact Co.refl _
          | true =>
           rw[G] at r;cases I:GN c e.type with
           | true =>
            rw[I] at r;simp only[r,fQ,fc,fL,fb,if_false] at b;refine Ak n (a2 _ _) ?_;refine Af 5 n ?_;simp only[go_sem,G,a,l];refine Ak n (al _ _) ?_;refine Ad 13 n ?_;simp only[go_sem,I];refine K (au (Aj (Ae (a8 (Aa fun _ d6=>?_)))));refine D1 3 ⟨o,4,0⟩ rfl rfl rfl rfl (by kernel_rfl) rfl ?_;simp only[go_sem,a,l];intro aq ay aC ap A M;refine Ap 3 A ?_;simp only[go_sem,a,a.symm,l,H];refine Ad 1 A ?_;simp only[go_sem,a,l];refine M _ (d6 (Ah ?_));rw[b];refine Ag ?_;simp only[go_sem,trD,a,l];exact Co.refl _
           | false =>
            rw[I] at r;refine Ak n (a2 _ _) ?_;refine Af 5 n ?_;simp only[go_sem,G,a,l];refine Ak n (al _ _) ?_;refine Af 9 n ?_;simp only[go_sem,I,a,l,l.symm,H.symm];cases J:Dr c.p c.env e.type (x) with
            | true =>
             rw[J] at r;simp only[r,fQ,f7,fN,fL,fb,if_false] at b;refine Ak n (ae _ _) ?_;refine Ad 3 n ?_;simp only[go_sem,J];refine K (au (Aj (Ae (a8 (Aa fun _ d7=>?_)))));refine D1 3 ⟨o,4,0⟩ rfl rfl rfl rfl (by kernel_rfl) rfl ?_;simp only[go_sem,a,l];intro aq ay aC ap A M;refine Ap 3 A ?_;simp only[go_sem,a,a.symm,l,H];refine Ad 1 A ?_;simp only[go_sem,a,l];refine M _ (d7 (Ah ?_));rw[b];refine Ag ?_;simp only[go_sem,trD,a,l];exact Co.refl _
            | false =>
             rw[J] at r;simp only[r,fQ,f7,gL,fL,if_true] at b;refine Ak n (ae _ _) ?_;refine Ad 3 n ?_;simp only[go_sem,J];refine K (au (Al (Aa fun _ d8=>Am fun aG aS bb aE v Y=>Af 2 v ?_)));simp only[go_sem,a,l];refine Ak v (BD _ _ _) ?_;refine Ad 4 v ?_;simp only[go_sem,trD,noR,badR,a,l];refine Y (d8 (Ah ?_));rw[b];refine Ag ?_;simp only[go_sem,trD,noR,badR,a,l];exact Co.refl _
   ·rw[if_pos (by omega)] at b;have dF : ¬ e.kind=2:=by omega
    have dG : ¬ e.kind=4:=by omega
    have dH : ¬ e.kind=5:=by omega
    refine Ac 19 fun a3 a4=>?_;simp only[go_sem,dF,dG,dH];refine W (Al (Aa fun _ d9=>Am fun aF aR ba aD u X=>Af 2 u ?_));simp only[go_sem];refine Ak u (BD _ _ _) ?_;refine Ad 4 u ?_;simp only[go_sem,trD,noR,badR];refine X (d9 (Ah ?_));rw[b];refine Ag ?_;simp only[go_sem,trD,noR,badR];exact Co.refl _
def Ki (e:Dec):Ty:=.mk e.name (e.vars.map Cp) 0
noncomputable def Dc (p:Prg) (s:Bool) (e:Dec):Cx:=⟨p,s,DI p e++e.sig.formals,⟨e.recv,Ki e,0⟩ :: e.sig.params⟩
theorem Lh {p:Prg} (h:smPr p) (s:Bool) {e:Dec} (he:smDe e) (h1:e.sig.formals.length≤2000) (h2:e.sig.params.length≤400000):smCx (Dc p s e):=by
 obtain ⟨w,l⟩:=OD h he;obtain ⟨c,⟨n,o⟩,⟨q,r⟩,⟨t,u⟩,g,⟨i,d⟩,b,m⟩:=he;refine ⟨h,⟨?_,fun f a=>?_⟩,?_,fun f a=>?_⟩
 ·simp only[Dc,dQ]; omega
 ·exact (eu.1 a).elim (l f) (b.2.1.2 f)
 ·simp only[Dc,eB]; omega
 ·rcases eq.1 a with rfl | a
  ·refine ⟨g,(Bi _).2 ⟨c,by simp[Ki]; exact i,fun _ j=>?_⟩⟩;obtain ⟨v,k,rfl⟩:=eh.1 j;exact Sv v (d v k)
  ·exact b.2.2.1.2 f a
def zCx:List D:=[.val (.slice none 0 0),.val (.int .i64 0),.val (.string ByteArray.empty),.val (.string ByteArray.empty),.val (.slice none 0 0),.val (.int .i64 0),.val (.slice none 0 0),.val (.slice none 0 0),.val (.int .i64 0),.val (.bool false),.val (.slice none 0 0),.val (.slice none 0 0)]
theorem Yi:∀ l:List Param,BO 5 (l.map Bt):=fun l=>Du 5 Bt l fun _=>⟨rfl,rfl⟩
def Iq (e:Dec):D:=.agg [.val (.string e.recv),.val (.string e.name),.sl false (e.vars.map Cu),.val (.int .i64 0),.val (.int .i64 0)]
theorem abG {r r' : D} {l:List D} (h:CoL r.cells r'.cells):Co (.sl false (r :: l)) (.sl false (r' :: l)) :=
 Co.sl (fun e=>by cases e) rfl (fun i _ _ ha ha'=>by
  cases i with
  | zero=>cases ha; cases ha'; exact h
  | succ i =>
   simp only[fK] at ha ha';rw[ha] at ha';cases ha';exact CoL.refl _)
theorem abH (e:Dec) (l:List Param):Co (.sl false (Iq e :: l.map Bt)) (slPa (⟨e.recv,Ki e,0⟩ :: l)):=by
 unfold slPa;rw[eM];exact abG (.cons (.refl _) (.cons (.refl _) (.cons (TJ e.vars) (.cons (.refl _) (.cons (.refl _) .nil)))))
theorem CoL.app {a b c d:List D} (h:CoL a b) (k:CoL c d):CoL (a++c) (b++d):=by
 induction h with
 | nil=>exact k
 | cons e _ ih=>exact .cons e ih
theorem aba (p:Prg) (s:Bool) (e:Dec):Co (.agg (prC p++[dB s,.sl false ((DI p e).map Bz++e.sig.formals.map Bz),.sl false (Iq e :: e.sig.params.map Bt)])) (F6 (Dc p s e)):=by
 refine .agg (CoL.app (CoL.refl _) (.cons (.refl _) (.cons (Co.of_eq ?_) (.cons (abH e _) .nil))));simp[Dc,slFm]
set_option maxRecDepth 100000 in
set_option maxHeartbeats 2000000 in
theorem LD (p:Prg) (h:smPr p) (s:Bool) (e:Dec) (he:smDe e) (h1:e.sig.formals.length≤2000) (g d:Nat):ACalls E 75 [AZ p,dB s,Ce e] [] g d (F6 (Dc p s e)) []:=by
 have a9:=TK p h e he;obtain ⟨v1,v2⟩:=OD h he;obtain ⟨e1,⟨e2,e3⟩,⟨e4,e5⟩,⟨e6,e7⟩,e8,⟨e9,ag⟩,T,ah⟩:=he;have ar:=T.2.2.1.1;refine Ax 53 Tryz.call75 Tryz.func75 ?_;simp only[go_sem];refine Aa fun _ W=>Ac 3 fun c _=>?_;simp only[go_sem];refine W (Aa fun _ Z=>Ac 5 fun l aa=>?_);simp only[go_sem];refine Z (Aa fun _ a0=>Aa fun _ a1=>?_);have b:l≠c:=Ar aa 3 0 (by simp[go_sem]);refine Di ⟨l,7,0⟩ 1 25 3 ?_;simp only[go_sem,b.symm];intro C P;have F:C≠c:=Ar P 3 0 (by simp[go_sem,b]);have G:C≠l:=Ar P 7 0 (by simp[go_sem]);refine Ac 1 fun _ _=>?_;simp only[go_sem];refine a1 (Ai ?_)
 refine Ay (fun m S=>∃ k a i,(a≠c∧a≠l)∧k≤e.vars.length∧m=e.vars.length - k∧Le { env:=[(1,dB s),(3,.ptr ⟨c,3,0⟩ 0),(5,.ptr ⟨c,5,0⟩ 0),(6,.ptr ⟨c,6,0⟩ 0),(7,.ptr ⟨l,7,0⟩ 0),(8,dN k)],σ:=[(⟨c,3,0⟩,.box 30 (prC p)),(⟨c,5,0⟩,.box 48 (deC e)),(⟨c,6,0⟩,.box 72 zCx),(⟨l,7,0⟩,.box 25 [.val (.string e.name),.own ⟨a,i,0⟩ k,.val (.int .i64 0)]),(⟨a,i,0⟩,.arr 25 3 ((e.vars.take k).map Cu))] } S) e.vars.length ?_ ?_
 ·refine ⟨0,C,0,⟨F,G⟩,dX _,rfl,Ao ?_⟩;simp only[go_sem,zCx,b,b.symm,F,F.symm,G,G.symm];all_goals first|trivial|omega
 ·rintro m S ⟨k,a,i,⟨ha0,ha1⟩,hk,rfl,Q⟩;refine Az Q ?_;clear Q;refine Aa fun _ a2=>Aa fun _ M=>?_;by_cases t:k < e.vars.length
  ·have ac:=getM (f:=encS) t;have ae:(e.vars.take (k + 1)).map Cu=(e.vars.take k).map Cu++[Cu e.vars[k]]:=by
    rw[ep,dO t,eC]
    rfl
   have ad:((e.vars.take k).map Cu).length=k:=by rw[ei,eD]; omega
   generalize (e.vars.take k).map Cu=V at *;refine Ac 5 fun U ab=>?_;simp only[go_sem,t,b,ha0,zCx];refine M (Al (Ae (a2 (Aa fun _ a3=>Ai (AF 9 fun B N _ _ A a6=>Ap 9 A ?_)))));simp only[go_sem,ac,b,b.symm,ha0,ha1];refine Af 0 A ?_;simp only[go_sem];refine AG A rfl rfl rfl rfl rfl es23 sz25 by25 ze25 rfl (by decide) ?_;simp only[go_sem,ad,ha0.symm,ha1.symm];first | refine ⟨⟨by omega,by omega⟩,?_⟩ | skip
   have H:B≠c:=Ar N 3 0 (by simp[go_sem]);have x:B≠l:=Ar N 7 0 (by simp[go_sem,b.symm]);refine Ad 2 A ?_;simp only[go_sem,b.symm,x];refine a6 (a3 (Ac 3 fun _ _=>?_));simp only[go_sem,zCx];try simp (disch:=omega) only[Au]
   refine ⟨_,?_,k + 1,B,29,⟨H,x⟩,t,rfl,Ao ?_⟩
   ·omega
   simp only[go_sem,ae,Cu,b,b.symm,H,H.symm,x,x.symm];all_goals first|trivial|omega
  ·have:k=e.vars.length:=by omega
   subst this;rw[eo];refine Ac 5 fun U ab=>?_;simp only[go_sem,t,b,ha0,zCx];refine M (Aj (Aq (a0 (Aa fun _ a4=>?_))));refine Ch ⟨a,i,0⟩ ?_;simp only[go_sem,ha0.symm,ha1.symm];refine Ac 5 fun v O=>?_;simp only[go_sem,b];refine a4 (Aa fun _ a5=>?_);have j:v≠c:=Ar O 3 0 (by simp[go_sem]);have n:v≠l:=Ar O 7 0 (by simp[go_sem,b.symm]);refine AF 6 fun q D _ _ o a7=>Av 2 o ?_;simp only[go_sem,b,j];refine AI o rfl rfl rfl (a9 _ _) (CoL.refl _) (by simp[nwOk]) ?_;refine Ap 3 o ?_;simp only[go_sem,b,j];refine Af 0 o ?_;simp only[go_sem]
   refine AG o rfl rfl rfl rfl rfl es41 sz92 by92 ze92 rfl (by decide) ?_;simp only[go_sem,Mw];first | refine ⟨⟨by omega,by omega⟩,?_⟩ | skip
   have y:q≠c:=Ar D 3 0 (by simp[go_sem,j]);have I:q≠l:=Ar D 7 0 (by simp[go_sem,b.symm,n]);have z:q≠v:=Ar D 9 0 (by simp[go_sem]);refine Ad 2 o ?_;simp only[go_sem,j.symm,n.symm,z];refine a7 (a5 (Aa fun _ X=>Am fun r w _ _ u a8=>Af 4 u ?_));simp only[go_sem,b,b.symm,j,n,y,I];refine ZJ u rfl rfl rfl es42 sz84 ([Iq e]) (by simp only[go_sem] <;> simp[Iq,go_sem]) ?_;simp only[go_sem,Iq];have J:r≠c:=Ar w 3 0 (by simp[go_sem,j,y]);have R:r≠l:=Ar w 7 0 (by simp[go_sem,b.symm,n,I]);have K:r≠v:=Ar w 9 0 (by simp[go_sem,z]);have L:r≠q:=Ar w 40 0 (by simp[go_sem])
   refine Af 3 u ?_;simp only[go_sem,b,j,y,J];refine AG u rfl rfl rfl rfl rfl es42 sz84 by84 ze84 rfl (by decide) ?_;simp only[go_sem,Yi,J.symm,R.symm,K.symm,L.symm];first | refine ⟨⟨by omega,by omega⟩,?_⟩ | skip
   refine Ad 2 u ?_;simp only[go_sem,j.symm,n.symm,z,K];refine a8 (X (Aa fun _ Y=>?_));refine Ch ⟨q,40,0⟩ ?_;simp only[go_sem,y.symm,I.symm,z.symm,L];refine Ch ⟨r,50,0⟩ ?_;simp only[go_sem,J.symm,R.symm,K.symm,L.symm];refine Ac 2 fun _ _=>?_;simp only[go_sem,b,j,j.symm,n.symm];refine Y (Ah (Ag ?_));simp only[go_sem,b,j];exact (by
    have h:=aba p s e;simp only[go_sem,Iq] at h ⊢;exact h)
noncomputable def body17 (p:Prg) (s:Bool) (e:Dec):Rz:=if e.kind=3 then fitR (Dc p s e) (kn (Dc p s e) e.body) e.sig.result else okR
def Sw (p:Prg):Prop:=∀ d∈p.decls,d.sig.params.length≤2000
set_option maxRecDepth 100000 in
set_option maxHeartbeats 1000000 in
theorem TM (p:Prg) (h:smPr p) (hF:Lg p) (hP:Sw p) (s:Bool) (i:Nat) (hi:i < p.decls.length) (g d:Nat):ACalls E 38 [AZ p,dB s,dN i] [] g d (encR (body17 p s p.decls[i])) []:=by
 have m:=getM (f:=Ce) hi;have n:=dP hi;have c:=h.1.2 _ n;have q:=(hF _ n).2;have L:=hP _ n;have u:((i:Int) < 0)=False:=eq_false (by omega);have v:((p.decls.length:Int)≤(i:Int))=False:=eq_false (by omega);have j:body17 p s p.decls[i]=if p.decls[i].kind=3 then fitR (Dc p s p.decls[i]) (kn (Dc p s p.decls[i]) p.decls[i].body) p.decls[i].sig.result else okR:=rfl
 generalize p.decls[i]=e at *;have K:=LD p h s e c q;have l:=Lh h s c q (by omega);have t:=c.2.2.2.2.2.2.2;have H:=NY (Dc p s e) l e.body (IZ _ l e.body t) (Kh _ l e.body t) e.sig.result c.2.2.2.2.2.2.1.2.2.2;generalize Dc p s e=C at *;refine Ax 42 Tryz.call38 Tryz.func38 ?_;simp only[go_sem];refine Aa fun _ z=>Ac 2 fun w _=>?_;simp only[go_sem];refine z (Aa fun _ A=>Aa fun _ r=>?_);by_cases k:e.kind=3
 ·rw[if_pos k] at j;have o:=eq_true k;refine Ac 18 fun x I=>?_;simp only[go_sem,u,v,m,o];refine r (Aj (Ae (A (Aa fun _ B=>Ac 7 fun y J=>?_))));simp only[go_sem,m];refine B (Aa fun _ D=>?_);have b:y≠w:=Ar J 3 0 (by simp[go_sem]);refine AF 10 fun _ _ _ _ a G=>Av 3 a ?_;simp only[go_sem,b,b.symm];refine Aw a (K _ _) ?_;refine Av 5 a ?_;simp only[go_sem,b.symm];refine Aw a (H _ _) ?_;refine Ap 0 a ?_;simp only[go_sem];refine Ad 1 a ?_;simp only[go_sem,b];refine G (D (Ah ?_));rw[j];refine Ag ?_;simp only[go_sem,b];exact Co.refl _
 ·rw[if_neg k] at j;have o:=eq_false k;refine Ac 18 fun x I=>?_;simp only[go_sem,u,v,m,o];refine r (Al (Aa fun _ F=>Ac 2 fun _ _=>?_));simp only[go_sem];refine F (Ah ?_);rw[j];refine Ag ?_;simp only[go_sem];exact Co.refl _
noncomputable def decR (p:Prg) (s:Bool) (i:Nat) (e:Dec):Rz:=match hd15 p i e with
 | some x=>badR x
 | none=>body17 p s e
noncomputable def Fh (p:Prg) (s:Bool):Nat→List Dec→Rz
 | _,[]=>(inf ⟨p,s,[],[]⟩ p.main).2
 | i,e :: r=>if (decR p s i e).bad=true then decR p s i e else Fh p s (i + 1) r
noncomputable def prg17 (p:Prg) (s:Bool):Rz:=Fh p s 0 p.decls
theorem Mz {p:Prg} {s:Bool} {l:List Dec} {k:Nat} (h:k < l.length):Fh p s k (l.drop k)=if (decR p s k l[k]).bad=true then decR p s k l[k] else Fh p s (k + 1) (l.drop (k + 1)):=by
 rw[ek h,Fh]
theorem ab8 (p:Prg) (s:Bool):Co (.agg (prC p++[dB s,.val (.slice none 0 0),.val (.slice none 0 0)])) (F6 ⟨p,s,[],[]⟩) :=
 .agg (CoL.app (CoL.refl _) (.cons (.refl _) (.cons (.nil _) (.cons (.nil _) .nil))))
set_option maxRecDepth 100000 in
set_option maxHeartbeats 1000000 in
theorem U0 (p:Prg) (h:smPr p) (hF:Lg p) (hP:Sw p) (s:Bool) (g d:Nat):ACalls E 19 [AZ p,dB s] [] g d (encR (prg17 p s)) []:=by
 have a9:=fun i o=>WG p h hF i o;have a2:=fun i o=>TM p h hF hP s i o;have a3:smCx ⟨p,s,[],[]⟩:=⟨h,⟨by simp,fun _ l=>nomatch l⟩,by simp,fun _ l=>nomatch l⟩
 have ab:InfC ⟨p,s,[],[]⟩ p.main:=IZ _ a3 p.main h.2;have ae:=h.1.1;have aa:prg17 p s=Fh p s 0 p.decls:=rfl;have C:=ab8 p s;refine Ax 39 Tryz.call19 Tryz.func19 ?_;simp only[go_sem];refine Aa fun _ N=>Ac 2 fun c _=>?_;simp only[go_sem];refine N (Aa fun _ T=>Aa fun _ U=>Ac 1 fun _ _=>?_);simp only[go_sem];refine U (Ai ?_);refine Ay (fun m H=>∃ k,k≤p.decls.length∧m=p.decls.length - k∧prg17 p s=Fh p s k (p.decls.drop k)∧Le { env:=[(1,dB s),(2,.ptr ⟨c,2,0⟩ 0),(4,.ptr ⟨c,4,0⟩ 0),(5,dN k)],σ:=[(⟨c,2,0⟩,.box 30 (prC p)),(⟨c,4,0⟩,.box 52 (rC okR))] } H) p.decls.length ?_ ?_
 ·refine ⟨0,dX _,rfl,aa,Ao ?_⟩;simp only[go_sem,okR];all_goals first|trivial|omega
 ·rintro m H ⟨k,hk,rfl,j,F⟩;refine Az F ?_;clear F;refine Aa fun _ V=>Aa fun _ z=>?_;by_cases f:k < p.decls.length
  ·have b:=@Mz p s p.decls k f;have l:=a9 k f;have a1:=a2 k f;have n:decR p s k p.decls[k]=match hd15 p k p.decls[k] with
    | some x=>badR x
    | none=>body17 p s p.decls[k]:=rfl
   generalize p.decls[k]=e at *;refine Ac 5 fun I a4=>?_;simp only[go_sem,f,okR];refine z (Al (Ae (V (Aa fun _ W=>Ai (Aa fun _ X=>Am fun J a5 _ _ t Y=>Af 2 t ?_)))));simp only[go_sem];refine Ak t (l _ _) ?_;refine Ad 2 t ?_;simp only[go_sem,rsD];refine Y (X (Aa fun _ A=>Aa fun _ B=>?_));have a:J≠c:=Ar a5 2 0 (by simp[go_sem]);cases G:hd15 p k e with
   | some x =>
    rw[G] at n;rw[n,if_pos (show (badR x).bad=true from rfl)] at b;refine Ac 3 fun K a6=>?_;simp only[go_sem,a.symm];refine B (Aj (Ae (A (Aa fun _ O=>Ac 2 fun w D=>?_))));simp only[go_sem,a.symm];refine O (Al (Aa fun _ P=>Ac 2 fun L a7=>?_));simp only[go_sem,a,a.symm];refine P (Ah ?_);rw[j,b];refine Ag ?_;simp only[go_sem,a];exact Co.refl _
   | none =>
    rw[G] at n;refine Ac 3 fun K a6=>?_;simp only[go_sem,a.symm];refine B (Al (Am fun _ _ _ _ u Z=>Af 3 u ?_));simp only[go_sem,a];refine Ak u (a1 _ _) ?_;refine Ad 1 u ?_;simp only[go_sem,a.symm];refine Z (A (Aa fun _ y=>?_));generalize body17 p s e=r at *;rw[n] at b;obtain ⟨rp,rb,rl⟩:=r;cases rb with
    | true =>
     rw[if_pos rfl] at b;refine Ac 2 fun w D=>?_;simp only[go_sem,a.symm];refine y (Al (Aa fun _ Q=>Ac 2 fun L a7=>?_));simp only[go_sem,a,a.symm];refine Q (Ah ?_);rw[j,b];refine Ag ?_;simp only[go_sem,a];exact Co.refl _
    | false =>
     rw[if_neg (by simp)] at b;refine Ac 2 fun w D=>?_;simp only[go_sem,a.symm];refine y (Aj (Ae (W (Ac 3 fun _ _=>?_))));simp only[go_sem,okR];try simp (disch:=omega) only[Au]
     refine ⟨_,?_,k + 1,f,rfl,j.trans b,Ao ?_⟩
     ·omega
     simp only[go_sem,a];all_goals first|trivial|omega
  ·have:k=p.decls.length:=by omega
   subst this;rw[eY,Fh] at j;simp only[go_sem] at C;refine Ac 5 fun I a4=>?_;simp only[go_sem,f,okR];refine z (Aj (Aq (T (Aa fun _ R=>Am fun M a8 _ _ v a0=>Af 5 v ?_))));simp only[go_sem];refine AA v rfl rfl rfl (ab _ _) (.cons C (.cons (.refl _) .nil)) ?_;refine Ad 7 v ?_;simp only[go_sem,trD];refine a0 (R (Aa fun _ S=>?_));have q:M≠c:=Ar a8 4 0 (by simp[go_sem]);refine Ac 2 fun _ _=>?_;simp only[go_sem,q,q.symm];refine S (Ah ?_);rw[j];refine Ag ?_;simp only[go_sem,q];exact Co.refl _
mutual
noncomputable def Dk (ns:List Str) (us:List Ty):Ex→Ex
 | .mk k n t a ks p=>.mk k n (AD ns us t) (a.map (AD ns us)) (MA ns us ks) p
noncomputable def MA (ns:List Str) (us:List Ty):List Ex→List Ex
 | []=>[]
 | e :: r=>Dk ns us e :: MA ns us r
end
theorem RC (ns:List Str) (us:List Ty):∀ l,MA ns us l=l.map (Dk ns us)
 | []=>by rw[MA]; rfl
 | e :: r=>by rw[MA,RC ns us r]; rfl
theorem I0 (ns:List Str) (us:List Ty) (e:Ex):Dk ns us e=.mk e.kind e.name (AD ns us e.type) (e.targs.map (AD ns us)) (e.kids.map (Dk ns us)) e.pos:=by
 cases e;rw[Dk,RC]
 rfl
theorem TN {ns:List Str} {us:List Ty} (hu:∀ t∈us,smTy t):∀ e:Ex,smEx e→smEx (Dk ns us e):=by
 refine Ex.ind fun e ih b=>?_;obtain ⟨f,g,⟨h,i⟩,j,k⟩:=(Bd e).1 b;rw[I0];refine (Bd _).2 ⟨f,Bp hu _ g,⟨by simpa using h,fun t c=>?_⟩,by simpa using j,fun _ d=>?_⟩
 ·obtain ⟨y,a,rfl⟩:=eh.1 c;exact Bp hu _ (i y a)
 ·obtain ⟨y,a,rfl⟩:=eh.1 d;exact ih y a (k y a)
theorem QB {α β:Type} (f:α→β) {l:List α} {k:Nat} (h:k < l.length):(l.take (k + 1)).map f=(l.take k).map f++[f l[k]]:=by
 rw[ep,dO h,eC]
 rfl
set_option maxRecDepth 100000 in
theorem U1 (ns:List Str) (us:List Ty) (hns:ns.length≤1000000) (hus:∀ t∈us,smTy t) (l:List Ty) (hl:l.length≤1000000) (hl2:∀ t∈l,smTy t) (g d:Nat):ACalls E 133 [slTy l,slS ns,slTy us] [] g d (slTy (l.map (AD ns us))) []:=by
 have D:=fun t F=>BB ns us hns hus t F;refine Ax 26 Tryz.call133 Tryz.func133 ?_;simp only[go_sem];refine Aa fun _ p=>Ac 1 fun _ _=>?_;simp only[go_sem];refine p (Aa fun _ q=>Ac 1 fun _ _=>?_);simp only[go_sem];refine q (Aa fun _ r=>Aa fun _ u=>?_);refine Bh 7 25 3 rfl fun o _=>?_;refine Ac 1 fun _ _=>?_;simp only[go_sem];refine u (Ai ?_);refine Ay (fun m s=>∃ k a i,k≤l.length∧m=l.length - k∧Le { env:=[(0,slTy l),(1,slS ns),(2,slTy us),(7,.own ⟨a,i,0⟩ k),(8,dN k)],σ:=[(⟨a,i,0⟩,.arr 25 3 (((l.take k).map (AD ns us)).map AC))] } s) l.length ?_ ?_
 ·refine ⟨0,o,0,dX _,rfl,Ao ?_⟩;simp only[go_sem];all_goals first|trivial|omega
 ·rintro m s ⟨k,a,i,H,rfl,h⟩;refine Az h ?_;clear h;refine Aa fun _ v=>Aa fun _ e=>?_;by_cases b:k < l.length
  ·have B:=getM (f:=AC) b;have G:=QB (AD ns us) b;have C:((l.take k).map (AD ns us)).length=k:=by rw[ei,eD]; omega
   have z:=D _ (hl2 _ (dP b));generalize (l.take k).map (AD ns us)=V at *;generalize l[k]=X at *;refine Ac 4 fun j A=>?_;simp only[go_sem,b];refine e (Al (Ae (v (Aa fun _ w=>Ai (Am fun n _ _ _ c y=>Af 7 c ?_)))));simp only[go_sem,B];refine Ak c (z _ _) ?_;refine Af 1 c ?_;simp only[go_sem];refine AG c rfl rfl rfl rfl rfl es23 sz25 by25 ze25 rfl (by decide) ?_;simp only[go_sem,C];first | refine ⟨⟨by omega,by omega⟩,?_⟩ | skip
   refine Ad 1 c ?_;simp only[go_sem];refine y (w (Ac 3 fun _ _=>?_));simp only[go_sem];try simp (disch:=omega) only[Au]
   refine ⟨_,?_,k + 1,n,24,b,rfl,Ao ?_⟩
   ·omega
   simp only[go_sem,G];all_goals first|trivial|omega
  ·have:k=l.length:=by omega
   subst this;refine Ac 4 fun j A=>?_;simp only[go_sem,b];refine e (Aj (Aq (r (Aa fun _ x=>Ac 2 fun _ _=>?_))));simp only[go_sem];refine x (Ah ?_);refine AY ⟨a,i,0⟩ ?_;simp only[go_sem];refine Ag ?_;simp only[go_sem];exact Co.refl _
def zEx8:List D:=[dI 0,.val (.string ByteArray.empty),.val (.string ByteArray.empty),.val (.slice none 0 0),dI 0,.val (.slice none 0 0),.val (.slice none 0 0),dI 0]
set_option maxRecDepth 100000 in
set_option maxHeartbeats 1000000 in
theorem U2 (ns:List Str) (us:List Ty) (hns:ns.length≤1000000) (hus:∀ t∈us,smTy t):∀ e:Ex,smEx e→∀ g d,ACalls E 97 [AK e,slS ns,slTy us] [] g d (AK (Dk ns us e)) []:=by
 refine Ex.ind fun e ih P g d=>?_;obtain ⟨s1,s2,⟨s3,s4⟩,s5,s6⟩:=(Bd e).1 P;have Y:=BB ns us hns hus e.type s2;have N:=U1 ns us hns hus e.targs s3 s4;have W:=I0 ns us e;refine Ax 47 Tryz.call97 Tryz.func97 ?_;simp only[go_sem];refine Aa fun _ D=>Ac 2 fun c _=>?_;simp only[go_sem];refine D (Aa fun _ F=>AF 18 fun h Q _ _ l L=>Av 8 l ?_);simp only[go_sem];refine Aw l (Y _ _) ?_;refine Av 4 l ?_;simp only[go_sem];refine Aw l (N _ _) ?_;refine Ap 4 l ?_;simp only[go_sem];refine Ad 1 l ?_;simp only[go_sem];refine L (F (Aa fun _ G=>Aa fun _ H=>?_));have b:h≠c:=Ar Q 3 0 (by simp[go_sem])
 refine Di ⟨h,7,0⟩ 6 28 8 ?_;simp only[go_sem,b.symm];intro q x;have r:q≠c:=Ar x 3 0 (by simp[go_sem,b]);have s:q≠h:=Ar x 7 0 (by simp[go_sem]);refine Ac 1 fun _ _=>?_;simp only[go_sem];refine H (Ai ?_);generalize AD ns us e.type=T at *;generalize e.targs.map (AD ns us)=B at *
 refine Ay (fun m A=>∃ k a i,(a≠c∧a≠h)∧k≤e.kids.length∧m=e.kids.length - k∧Le { env:=[(1,slS ns),(2,slTy us),(3,.ptr ⟨c,3,0⟩ 0),(6,.ptr ⟨c,6,0⟩ 0),(7,.ptr ⟨h,7,0⟩ 0),(8,dN k)],σ:=[(⟨c,3,0⟩,.box 28 (exC e)),(⟨c,6,0⟩,.box 28 zEx8),(⟨h,7,0⟩,.box 28 [.val (.int .i64 e.kind),.val (.string e.name),.val (.string T.name),.sl false (T.args.map AC),.val (.int .i64 T.pos),.sl false (B.map AC),.own ⟨a,i,0⟩ k,.val (.int .i64 e.pos)]),(⟨a,i,0⟩,.arr 28 8 (((e.kids.take k).map (Dk ns us)).map AK))] } A) e.kids.length ?_ ?_
 ·refine ⟨0,q,0,⟨r,s⟩,dX _,rfl,Ao ?_⟩;simp only[go_sem,zEx8,b,b.symm,r,r.symm,s,s.symm];all_goals first|trivial|omega
 ·rintro m A ⟨k,a,i,⟨ha0,ha1⟩,hk,rfl,y⟩;refine Az y ?_;clear y;refine Aa fun _ I=>Aa fun _ v=>?_;by_cases j:k < e.kids.length
  ·have S:=getM (f:=AK) j;have Z:=QB (Dk ns us) j;have U:((e.kids.take k).map (Dk ns us)).length=k:=by rw[ei,eD]; omega
   have z:=dP j;have O:=ih _ z (s6 _ z);generalize (e.kids.take k).map (Dk ns us)=V at *;generalize e.kids[k]=X at *;refine Ac 5 fun C R=>?_;simp only[go_sem,j,b,ha0,zEx8];refine v (Al (Ae (I (Aa fun _ J=>Ai (AF 11 fun p w _ _ n M=>Av 9 n ?_)))));simp only[go_sem,S,b,b.symm,ha0,ha1];refine Aw n (O _ _) ?_;refine Ap 1 n ?_;simp only[go_sem];refine Af 0 n ?_;simp only[go_sem];refine AG n rfl rfl rfl rfl rfl es26 sz28 by28 ze28 rfl (by decide) ?_;simp only[go_sem,U,ha0.symm,ha1.symm];first | refine ⟨⟨by omega,by omega⟩,?_⟩ | skip
   have u:p≠c:=Ar w 3 0 (by simp[go_sem]);have o:p≠h:=Ar w 7 0 (by simp[go_sem,b.symm]);refine Ad 2 n ?_;simp only[go_sem,b.symm,o];refine M (J (Ac 3 fun _ _=>?_));simp only[go_sem,zEx8];try simp (disch:=omega) only[Au]
   refine ⟨_,?_,k + 1,p,44,⟨u,o⟩,j,rfl,Ao ?_⟩
   ·omega
   simp only[go_sem,Z,b,b.symm,u,u.symm,o,o.symm];all_goals first|trivial|omega
  ·have:k=e.kids.length:=by omega
   subst this;refine Ac 5 fun C R=>?_;simp only[go_sem,j,b,ha0,zEx8];refine v (Aj (Aq (G (Aa fun _ K=>?_))));refine Ch ⟨a,i,0⟩ ?_;simp only[go_sem,ha0.symm,ha1.symm];refine Ac 2 fun _ _=>?_;simp only[go_sem,b,b.symm];refine K (Ah ?_);rw[W];refine Ag ?_;simp only[go_sem,b];exact Co.refl _
end Go.Proofs.T
