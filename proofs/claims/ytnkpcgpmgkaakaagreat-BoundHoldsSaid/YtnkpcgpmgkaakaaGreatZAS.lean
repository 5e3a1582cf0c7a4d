/- A part of the proof: ZAS. -/
import Derived.Test.YtnkpcgpmgkaakaaGreatZAR
namespace Go.Proofs.T
open Go Go.Ab Go.RowKit
noncomputable def sgs15 (p:Prg) (env:List Formal) (l:List Sig):Nat→List Sig→Option Int
 | _,[]=>none
 | k,s :: r=>if s.name∈(l.take k).map (·.name) then some s.pos else match sig15 p env s with
  | some i=>some i
  | none=>sgs15 p env l (k + 1) r
theorem Lf {p:Prg} {env:List Formal} {l:List Sig} {k:Nat} (h:k < l.length):sgs15 p env l k (l.drop k)=if l[k].name∈(l.take k).map (·.name) then some l[k].pos else match sig15 p env l[k] with
  | some i=>some i
  | none=>sgs15 p env l (k + 1) (l.drop (k + 1)):=by
 rw[ek h,sgs15]
noncomputable def typ15 (p:Prg) (i:Nat) (e:Dec):Option Int:=if CF p e.name≠some i then some e.pos else match fms15 p [] e.formals with
 | some x=>some x
 | none=>if e.kind=1 then (match pas15 p e.formals e.fields with
   | some x=>some x
   | none=>if e.name∈Hd p e.name then some e.pos else none)
  else sgs15 p e.formals e.sigs 0 e.sigs
def Lg (p:Prg):Prop:=∀ d∈p.decls,(∀ s∈d.sigs,s.formals.length≤2000)∧d.sig.formals.length≤2000
set_option maxRecDepth 100000 in
set_option maxHeartbeats 4000000 in
theorem UV (p:Prg) (h:smPr p) (hF:Lg p) (i:Nat) (hi:i < p.decls.length) (g d:Nat):ACalls E 72 [AZ p,dN i] [] g d (rsD (typ15 p i p.decls[i])) []:=by
 have bN:=getM (f:=Ce) hi;have he:=h.1.2 _ (dP hi);have aX:=hF _ (dP hi);have c6:=h.1.1;generalize p.decls[i]=e at *;obtain ⟨e1,⟨e2,e3⟩,⟨e4,e5⟩,⟨e6,e7⟩,e8,⟨e9,bY⟩,bZ,c0⟩:=he;have aE:=Dy p e.name h.1.1;have bE:=NT p h [] e.formals (by simp) (fun _ F=>nomatch F) (by omega) e3;have bP:=NU p h e.formals (by omega) e3 e.fields e4 e5;have bR:=Se p h e.name;have c7:=(WD p e.name).len;have aG:=GJ (Hd p e.name) (by omega) e.name;have aI:=fun s (hs:s∈e.sigs)=>NV p h e.formals (by omega) e3 s (e7 s hs) (by have:=aX.1 s hs; omega)
 have n:typ15 p i e=if CF p e.name≠some i then some e.pos else match fms15 p [] e.formals with
  | some x=>some x
  | none=>if e.kind=1 then (match pas15 p e.formals e.fields with
    | some x=>some x
    | none=>if e.name∈Hd p e.name then some e.pos else none)
   else sgs15 p e.formals e.sigs 0 e.sigs:=rfl
 refine Ax 106 Tryz.call72 Tryz.func72 ?_;simp only[go_sem];refine Aa fun _ aY=>Ac 2 fun q _=>?_;simp only[go_sem];refine aY (Aa fun _ b5=>Ac 7 fun A bF=>?_);simp only[go_sem,bN];refine b5 (Aa fun _ be=>Aa fun _ aB=>?_);have b:A≠q:=Ar bF 2 0 (by simp[go_sem]);refine Am fun _ _ _ _ a6 aD=>Af 3 a6 ?_;simp only[go_sem,b,b.symm];by_cases hf:CF p e.name=some i
 ·rw[if_neg (by simp[hf])] at n;refine Ak a6 (aE _ _) ?_;refine Ad 2 a6 ?_;simp only[go_sem,hf,optI];refine aD (aB (Aj (Ae (be (Aa fun _ bv=>Am fun B aF _ _ ar bz=>Af 3 ar ?_)))));simp only[go_sem,b,b.symm];refine AA ar rfl rfl rfl (bE _ _) (.cons (.refl _) (.cons (.nil _) (.cons (.refl _) .nil))) ?_;refine Ad 2 ar ?_;simp only[go_sem,rsD];refine bz (bv (Aa fun _ W=>Aa fun _ ab=>?_));have l:B≠q:=Ar aF 2 0 (by simp[go_sem,b]);have c:B≠A:=Ar aF 5 0 (by simp[go_sem]);by_cases P:e.kind=1
  ·rw[if_pos P] at n;cases Z:fms15 p [] e.formals with
   | some x =>
    rw[Z] at n;refine Ac 8 fun g5 aq=>?_;simp only[go_sem,l.symm,c.symm];refine ab (Aj (Ae (W (Aa fun _ _=>Aa fun _ bx=>Ac 3 fun Y a3=>?_))));simp only[go_sem,P,b.symm,c];refine bx (Al (Aa fun _ aZ=>Ac 2 fun ag ao=>?_));simp only[go_sem,b,l,l.symm,c.symm];refine aZ (Ah ?_);rw[n];refine Ag ?_;simp only[go_sem,b,l];exact Co.refl _
   | none =>
    rw[Z] at n;refine Ac 8 fun g5 aq=>?_;simp only[go_sem,P,b.symm,l.symm,c,c.symm];refine ab (Al (Aa fun _ b0=>Am fun _ _ _ _ au bA=>Af 5 au ?_));simp only[go_sem,b,b.symm,l,c];refine Ak au (bP _ _) ?_;refine Ad 1 au ?_;simp only[go_sem,rsD,l.symm,c.symm];refine bA (b0 (Aa fun _ aj=>?_));cases h2:pas15 p e.formals e.fields with
    | some x =>
     rw[h2] at n;refine AE fun g7 bM bW aM K ac=>Ap 12 K ?_;simp only[go_sem,l.symm,c.symm];refine ac (aj (Aj (Ae (W (Aa fun _ _=>Aa fun _ b1=>Ac 3 fun Y a3=>?_)))));simp only[go_sem,b.symm,c];refine b1 (Al (Aa fun _ b2=>Ac 2 fun ag ao=>?_));simp only[go_sem,b,l,l.symm,c.symm];refine b2 (Ah ?_);rw[n];refine Ag ?_;simp only[go_sem,b,l];exact Co.refl _
    | none =>
     rw[h2] at n;refine AE fun g7 bM bW aM K ac=>Av 7 K ?_;simp only[go_sem,b,b.symm,l,l.symm,c,c.symm];refine Aw K (bR _ _) ?_;refine Av 2 K ?_;simp only[go_sem,b.symm,c];by_cases ad:e.name∈Hd p e.name
     ·rw[if_pos ad] at n;refine Aw K (aG _ _) ?_;refine Ap 1 K ?_;simp only[go_sem,ad];refine ac (aj (Al (Ac 4 fun _ _=>?_)));simp only[go_sem,b.symm,l.symm,c,c.symm];refine W (Aa fun _ _=>Aa fun _ b3=>Ac 3 fun Y a3=>?_);simp only[go_sem,b.symm,c];refine b3 (Al (Aa fun _ b4=>Ac 2 fun ag ao=>?_));simp only[go_sem,b,l,l.symm,c.symm];refine b4 (Ah ?_);rw[n];refine Ag ?_;simp only[go_sem,b,l];exact Co.refl _
     ·rw[if_neg ad] at n;refine Aw K (aG _ _) ?_;refine Ap 1 K ?_;simp only[go_sem,ad];refine ac (aj (Aj (Ae (W (Aa fun _ _=>Aa fun _ b6=>Ac 3 fun Y a3=>?_)))));simp only[go_sem,b.symm,c];refine b6 (Al (Aa fun _ b7=>Ac 2 fun ag ao=>?_));simp only[go_sem,b,l,l.symm,c.symm];refine b7 (Ah ?_);rw[n];refine Ag ?_;simp only[go_sem,b,l];exact Co.refl _
  ·rw[if_neg P] at n;have c5:True:=trivial;cases Z:fms15 p [] e.formals with
   | some x =>
    rw[Z] at n;refine Ac 8 fun g5 aq=>?_;simp only[go_sem,l.symm,c.symm];refine ab (Aj (Ae (W (Aa fun _ b8=>Aa fun _ b9=>Ac 3 fun Y a3=>?_))));simp only[go_sem,P,b.symm,c];refine b9 (Aj (Ae (b8 (Aa fun _ ba=>Ac 1 fun aQ bG=>?_))));simp only[go_sem];refine ba (Aa fun _ ay=>Aa fun _ bb=>?_);refine Bh 7 9 1 rfl fun G O=>?_;have Q:G≠q:=Ar O 2 0 (by simp[go_sem,b,l]);have R:G≠A:=Ar O 5 0 (by simp[go_sem,c]);have T:G≠B:=Ar O 6 0 (by simp[go_sem]);refine Ac 1 fun aR bH=>?_;simp only[go_sem];refine bb (Ai ?_)
    refine Ay (fun m s=>∃ k a L r,(a≠q∧a≠A∧a≠B)∧k≤e.sigs.length∧m=e.sigs.length - k∧((r=none→typ15 p i e=sgs15 p e.formals e.sigs k (e.sigs.drop k))∧∀ y,r=some y→typ15 p i e=r)∧Le { env:=[(2,.ptr ⟨q,2,0⟩ 0),(4,.ptr ⟨q,4,0⟩ 0),(5,.ptr ⟨A,5,0⟩ 0),(6,.ptr ⟨B,6,0⟩ 0),(7,.own ⟨a,L,0⟩ ((e.sigs.take k).map (·.name)).length),(8,dN k)],σ:=[(⟨q,2,0⟩,.box 30 (prC p)),(⟨q,4,0⟩,.box 52 (rsC none)),(⟨A,5,0⟩,.box 48 (deC e)),(⟨B,6,0⟩,.box 52 (rsC r)),(⟨a,L,0⟩,.arr 9 1 (((e.sigs.take k).map (·.name)).map encS))] } s) e.sigs.length ?_ ?_
    ·refine ⟨0,G,0,(some x),⟨Q,R,T⟩,dX _,rfl,⟨fun F=>(nomatch F),fun y _=>n⟩,Ao ?_⟩;simp only[go_sem,b,b.symm,l,l.symm,c,c.symm,Q,Q.symm,R,R.symm,T,T.symm];all_goals first|trivial|omega
    ·rintro m s ⟨k,a,L,r,⟨ha0,ha1,ha4⟩,bO,rfl,⟨V,a7⟩,a5⟩;refine Az a5 ?_;clear a5;clear n;refine Aa fun _ bc=>Aa fun _ ak=>?_;by_cases o:k < e.sigs.length
     ·cases r with
      | some y =>
       have n:=a7 y rfl;refine Ac 10 fun X a2=>?_;simp only[go_sem,o,b.symm,l.symm,c,c.symm,ha1,ha4];refine ak (Aj (Aq (ay (Aa fun _ bd=>Ac 2 fun ah ap=>?_))));simp only[go_sem,b,l,l.symm,c.symm,ha0,ha4];refine bd (Ah ?_);rw[n];refine Ag ?_;simp only[go_sem,b,l,ha0];exact Co.refl _
      | none =>
       have w:=@Lf p e.formals e.sigs k o;have M:=V rfl;have H:=getM (f:=AH) o;have av:=aI _ (dP o);have a8:(e.sigs.take (k + 1)).map (·.name)=(e.sigs.take k).map (·.name)++[e.sigs[k].name]:=by
        rw[ep,dO o,eC]
        rfl
       have a9:(e.sigs.take (k + 1)).length=((e.sigs.take k).map (·.name)).length + 1:=by rw[ei,eD,eD]; omega
       have a4:=JL ((e.sigs.take k).map (·.name)) (by rw[ei,eD]; omega) e.sigs[k].name a L;have bB:((e.sigs.take k).map (·.name)).length≤1000000:=by rw[ei,eD]; omega
       generalize (e.sigs.take k).map (·.name)=NS at *;generalize e.sigs[k]=S at *;refine Ac 10 fun X a2=>?_;simp only[go_sem,o,b.symm,l.symm,c,c.symm,ha1,ha4];refine ak (Al (Ae (bc (Aa fun _ bf=>Ai (Aa fun _ bg=>Aa fun _ az=>Am fun aT bJ bT aJ D a0=>Af 7 D ?_)))));simp only[go_sem,H,AH,b.symm,c,ha1];by_cases I:S.name∈NS
       ·rw[if_pos I] at w;have n:=M.trans w;refine Dx D rfl rfl rfl (a4 _ _) (CoL.refl _) (by simp[go_sem,ha0.symm,ha1.symm,ha4.symm]) ?_;refine Ad 0 D ?_;simp only[go_sem,I,ha0.symm,ha1.symm,ha4.symm];refine a0 (az (Al (Aa fun _ bh=>Ac 8 fun aU bK=>?_)));simp only[go_sem,H,AH,b,b.symm,l,c,ha0,ha1];refine bh (Ah ?_);rw[n];refine Ag ?_;simp only[go_sem,b,l,ha0];exact Co.refl _
       ·rw[if_neg I] at w;refine Dx D rfl rfl rfl (a4 _ _) (CoL.refl _) (by simp[go_sem,ha0.symm,ha1.symm,ha4.symm]) ?_;refine Ad 0 D ?_;simp only[go_sem,I,ha0.symm,ha1.symm,ha4.symm];refine a0 (az (Aj (Ae (bg (Aa fun _ bi=>Am fun C N bU aK U am=>Af 8 U ?_)))));simp only[go_sem,H,AH,b.symm,c,ha1];refine AG U rfl rfl rfl rfl rfl es44 sz9 by9 ze9 rfl (by decide) ?_;simp only[go_sem,ha0.symm,ha1.symm,ha4.symm];first | refine ⟨⟨by omega,by omega⟩,?_⟩ | skip
        have t:C≠q:=Ar N 2 0 (by simp[go_sem,ha0]);have u:C≠A:=Ar N 5 0 (by simp[go_sem,b.symm,ha1]);have v:C≠B:=Ar N 6 0 (by simp[go_sem,l.symm,c.symm,ha4]);refine Ad 1 U ?_;simp only[go_sem];refine am (bi (AF 9 fun aV bL bV aL J an=>Av 8 J ?_));simp only[go_sem,H,AH,b,b.symm,l,c,t,u];refine Aw J (av _ _) ?_;refine Ap 0 J ?_;simp only[go_sem,rsD];refine Ad 1 J ?_;simp only[go_sem,l.symm,c.symm,v];refine an (bf (Ac 3 fun aS bI=>?_));simp only[go_sem];try simp (disch:=omega) only[Au]
        cases hu:sig15 p e.formals S with
        | some y =>
         rw[hu] at w;refine ⟨_,?_,k + 1,C,95,some y,⟨t,u,v⟩,o,rfl,⟨fun F=>(nomatch F),fun z _=>M.trans w⟩,Ao ?_⟩
         ·omega
         simp only[go_sem,a8,a9,b,b.symm,l,l.symm,c,c.symm,t,t.symm,u,u.symm,v,v.symm];all_goals first|trivial|omega
        | none =>
         rw[hu] at w;refine ⟨_,?_,k + 1,C,95,none,⟨t,u,v⟩,o,rfl,⟨fun F=>M.trans w,fun z hz=>(nomatch hz)⟩,Ao ?_⟩
         ·omega
         simp only[go_sem,a8,a9,b,b.symm,l,l.symm,c,c.symm,t,t.symm,u,u.symm,v,v.symm];all_goals first|trivial|omega
     ·have:k=e.sigs.length:=by omega
      subst this;rw[eY,sgs15] at V;have n:typ15 p i e=r:=by
       cases r with
       | none=>exact V rfl
       | some y=>exact a7 y rfl
      refine Ac 10 fun X a2=>?_;simp only[go_sem,o,b.symm,c,ha1];refine ak (Aj (Aq (ay (Aa fun _ bj=>Ac 2 fun ah ap=>?_))));simp only[go_sem,b,l,l.symm,c.symm,ha0,ha4];refine bj (Ah ?_);rw[n];refine Ag ?_;simp only[go_sem,b,l,ha0];exact Co.refl _
   | none =>
    rw[Z] at n;refine Ac 8 fun g5 aq=>?_;simp only[go_sem,P,b.symm,l.symm,c,c.symm];refine ab (Aj (Ae (W (Aa fun _ bk=>Aa fun _ bl=>Ac 3 fun Y a3=>?_))));simp only[go_sem,P,b.symm,c];refine bl (Aj (Ae (bk (Aa fun _ bm=>Ac 1 fun aQ bG=>?_))));simp only[go_sem];refine bm (Aa fun _ aA=>Aa fun _ bn=>?_);refine Bh 7 9 1 rfl fun G O=>?_;have Q:G≠q:=Ar O 2 0 (by simp[go_sem,b,l]);have R:G≠A:=Ar O 5 0 (by simp[go_sem,c]);have T:G≠B:=Ar O 6 0 (by simp[go_sem]);refine Ac 1 fun aR bH=>?_;simp only[go_sem];refine bn (Ai ?_)
    refine Ay (fun m s=>∃ k a L r,(a≠q∧a≠A∧a≠B)∧k≤e.sigs.length∧m=e.sigs.length - k∧((r=none→typ15 p i e=sgs15 p e.formals e.sigs k (e.sigs.drop k))∧∀ y,r=some y→typ15 p i e=r)∧Le { env:=[(2,.ptr ⟨q,2,0⟩ 0),(4,.ptr ⟨q,4,0⟩ 0),(5,.ptr ⟨A,5,0⟩ 0),(6,.ptr ⟨B,6,0⟩ 0),(7,.own ⟨a,L,0⟩ ((e.sigs.take k).map (·.name)).length),(8,dN k)],σ:=[(⟨q,2,0⟩,.box 30 (prC p)),(⟨q,4,0⟩,.box 52 (rsC none)),(⟨A,5,0⟩,.box 48 (deC e)),(⟨B,6,0⟩,.box 52 (rsC r)),(⟨a,L,0⟩,.arr 9 1 (((e.sigs.take k).map (·.name)).map encS))] } s) e.sigs.length ?_ ?_
    ·refine ⟨0,G,0,none,⟨Q,R,T⟩,dX _,rfl,⟨fun _=>n,fun y hy=>(nomatch hy)⟩,Ao ?_⟩;simp only[go_sem,b,b.symm,l,l.symm,c,c.symm,Q,Q.symm,R,R.symm,T,T.symm];all_goals first|trivial|omega
    ·rintro m s ⟨k,a,L,r,⟨ha0,ha1,ha4⟩,bO,rfl,⟨V,a7⟩,a5⟩;refine Az a5 ?_;clear a5;clear n;refine Aa fun _ bo=>Aa fun _ al=>?_;by_cases o:k < e.sigs.length
     ·cases r with
      | some y =>
       have n:=a7 y rfl;refine Ac 10 fun X a2=>?_;simp only[go_sem,o,b.symm,l.symm,c,c.symm,ha1,ha4];refine al (Aj (Aq (aA (Aa fun _ bp=>Ac 2 fun ah ap=>?_))));simp only[go_sem,b,l,l.symm,c.symm,ha0,ha4];refine bp (Ah ?_);rw[n];refine Ag ?_;simp only[go_sem,b,l,ha0];exact Co.refl _
      | none =>
       have w:=@Lf p e.formals e.sigs k o;have M:=V rfl;have H:=getM (f:=AH) o;have av:=aI _ (dP o);have a8:(e.sigs.take (k + 1)).map (·.name)=(e.sigs.take k).map (·.name)++[e.sigs[k].name]:=by
        rw[ep,dO o,eC]
        rfl
       have a9:(e.sigs.take (k + 1)).length=((e.sigs.take k).map (·.name)).length + 1:=by rw[ei,eD,eD]; omega
       have a4:=JL ((e.sigs.take k).map (·.name)) (by rw[ei,eD]; omega) e.sigs[k].name a L;have bB:((e.sigs.take k).map (·.name)).length≤1000000:=by rw[ei,eD]; omega
       generalize (e.sigs.take k).map (·.name)=NS at *;generalize e.sigs[k]=S at *;refine Ac 10 fun X a2=>?_;simp only[go_sem,o,b.symm,l.symm,c,c.symm,ha1,ha4];refine al (Al (Ae (bo (Aa fun _ bq=>Ai (Aa fun _ br=>Aa fun _ aC=>Am fun aT bJ bT aJ D a0=>Af 7 D ?_)))));simp only[go_sem,H,AH,b.symm,c,ha1];by_cases I:S.name∈NS
       ·rw[if_pos I] at w;have n:=M.trans w;refine Dx D rfl rfl rfl (a4 _ _) (CoL.refl _) (by simp[go_sem,ha0.symm,ha1.symm,ha4.symm]) ?_;refine Ad 0 D ?_;simp only[go_sem,I,ha0.symm,ha1.symm,ha4.symm];refine a0 (aC (Al (Aa fun _ bs=>Ac 8 fun aU bK=>?_)));simp only[go_sem,H,AH,b,b.symm,l,c,ha0,ha1];refine bs (Ah ?_);rw[n];refine Ag ?_;simp only[go_sem,b,l,ha0];exact Co.refl _
       ·rw[if_neg I] at w;refine Dx D rfl rfl rfl (a4 _ _) (CoL.refl _) (by simp[go_sem,ha0.symm,ha1.symm,ha4.symm]) ?_;refine Ad 0 D ?_;simp only[go_sem,I,ha0.symm,ha1.symm,ha4.symm];refine a0 (aC (Aj (Ae (br (Aa fun _ bt=>Am fun C N bU aK U am=>Af 8 U ?_)))));simp only[go_sem,H,AH,b.symm,c,ha1];refine AG U rfl rfl rfl rfl rfl es44 sz9 by9 ze9 rfl (by decide) ?_;simp only[go_sem,ha0.symm,ha1.symm,ha4.symm];first | refine ⟨⟨by omega,by omega⟩,?_⟩ | skip
        have t:C≠q:=Ar N 2 0 (by simp[go_sem,ha0]);have u:C≠A:=Ar N 5 0 (by simp[go_sem,b.symm,ha1]);have v:C≠B:=Ar N 6 0 (by simp[go_sem,l.symm,c.symm,ha4]);refine Ad 1 U ?_;simp only[go_sem];refine am (bt (AF 9 fun aV bL bV aL J an=>Av 8 J ?_));simp only[go_sem,H,AH,b,b.symm,l,c,t,u];refine Aw J (av _ _) ?_;refine Ap 0 J ?_;simp only[go_sem,rsD];refine Ad 1 J ?_;simp only[go_sem,l.symm,c.symm,v];refine an (bq (Ac 3 fun aS bI=>?_));simp only[go_sem];try simp (disch:=omega) only[Au]
        cases hu:sig15 p e.formals S with
        | some y =>
         rw[hu] at w;refine ⟨_,?_,k + 1,C,95,some y,⟨t,u,v⟩,o,rfl,⟨fun F=>(nomatch F),fun z _=>M.trans w⟩,Ao ?_⟩
         ·omega
         simp only[go_sem,a8,a9,b,b.symm,l,l.symm,c,c.symm,t,t.symm,u,u.symm,v,v.symm];all_goals first|trivial|omega
        | none =>
         rw[hu] at w;refine ⟨_,?_,k + 1,C,95,none,⟨t,u,v⟩,o,rfl,⟨fun F=>M.trans w,fun z hz=>(nomatch hz)⟩,Ao ?_⟩
         ·omega
         simp only[go_sem,a8,a9,b,b.symm,l,l.symm,c,c.symm,t,t.symm,u,u.symm,v,v.symm];all_goals first|trivial|omega
     ·have:k=e.sigs.length:=by omega
      subst this;rw[eY,sgs15] at V;have n:typ15 p i e=r:=by
       cases r with
       | none=>exact V rfl
       | some y=>exact a7 y rfl
      refine Ac 10 fun X a2=>?_;simp only[go_sem,o,b.symm,c,ha1];refine al (Aj (Aq (aA (Aa fun _ bu=>Ac 2 fun ah ap=>?_))));simp only[go_sem,b,l,l.symm,c.symm,ha0,ha4];refine bu (Ah ?_);rw[n];refine Ag ?_;simp only[go_sem,b,l,ha0];exact Co.refl _
 ·rw[if_pos hf] at n;have bD:¬ optI (CF p e.name)=(i:Int):=by
   cases hq:CF p e.name with
   | none=>simp only[optI]; omega
   | some j =>
    rw[hq] at hf;simp only[optI];intro F;exact hf (by rw[show j=i by omega])
  refine Ak a6 (aE _ _) ?_;refine Ad 2 a6 ?_;simp only[go_sem,bD];refine aD (aB (Al (Aa fun _ bw=>Ac 4 fun _ _=>?_)));simp only[go_sem,b,b.symm];refine bw (Ah ?_);rw[n];refine Ag ?_;simp only[go_sem,b];exact Co.refl _
noncomputable def EM (p:Prg) (l:List Str):Nat→List Str→Bool
 | _,[]=>false
 | k,v :: r=>if AU p v≠0 then true else if v∈l.take k then true else EM p l (k + 1) r
theorem Mx {p:Prg} {l:List Str} {k:Nat} (h:k < l.length):EM p l k (l.drop k)=if AU p l[k]≠0 then true else if l[k]∈l.take k then true else EM p l (k + 1) (l.drop (k + 1)):=by
 rw[ek h,EM]
noncomputable def GL (v:Str):List Param→Option Int
 | []=>none
 | x :: r=>if x.name=v then some x.pos else GL v r
theorem UW {v:Str} {l:List Param} {k:Nat} (h:k < l.length):GL v (l.drop k)=if l[k].name=v then some l[k].pos else GL v (l.drop (k + 1)):=by
 rw[ek h,GL]
noncomputable def met15 (p:Prg) (i:Nat) (e:Dec):Option Int:=if AU p e.name≠1 then some e.pos else if e.vars.length≠(Bf p e.name).length then some e.pos else
 if EM p e.vars 0 e.vars=true then some e.pos else if DP p e.name e.sig.name≠some i then some e.pos else match sig15 p (DI p e) e.sig with
  | some x=>some x
  | none=>GL e.recv e.sig.params
theorem Ye (p:Prg) (e:Dec):(DI p e).length≤(Bf p e.name).length:=by
 unfold DI;rw[fF];omega
theorem NW {α β γ:Type} (f:α→β→γ):∀ (l:List α) (m:List β) {x:γ},x∈List.zipWith f l m→∃ a∈l,∃ b∈m,x=f a b
 | [],_,_,h=>by simp at h
 | _ :: _,[],_,h=>by simp at h
 | a :: l,b :: m,x,h=>by
  rw[List.zipWith_cons_cons] at h;rcases eq.1 h with rfl | h
  ·exact ⟨a,dY,b,dY,rfl⟩
  ·obtain ⟨a',h1,b',h2,h3⟩:=NW f l m h;exact ⟨a',ea _ h1,b',ea _ h2,h3⟩
theorem OD {p:Prg} (h:smPr p) {e:Dec} (he:smDe e):(DI p e).length≤2000∧∀ f∈DI p e,smFm f:=by
 have b:=(E2 h e.name).2.1;change (Bf p e.name).length≤2000∧∀ f∈Bf p e.name,smFm f at b;refine ⟨ef (Ye p e) b.1,fun f g=>?_⟩;obtain ⟨a,d,v,c,rfl⟩:=NW _ _ _ g;refine ⟨he.2.2.2.2.2.1.2 v c,Bp (fun _ i=>?_) _ (b.2 a d).2⟩;obtain ⟨v,c,rfl⟩:=eh.1 i;exact Sv v (he.2.2.2.2.2.1.2 v c)
theorem abF (l:List Str) (k:Nat):(l.map encS).take k=(l.take k).map encS:=List.map_take.symm
theorem ZK (l:List Str):GW 1 (l.map encS):=fun _ hr=>by
 obtain ⟨f,_,rfl⟩:=eh.1 hr
 rfl
set_option maxRecDepth 100000 in
set_option maxHeartbeats 4000000 in
theorem UX (p:Prg) (h:smPr p) (hF:Lg p) (i:Nat) (hi:i < p.decls.length) (g d:Nat):ACalls E 73 [AZ p,dN i] [] g d (rsD (met15 p i p.decls[i])) []:=by
 have aW:=getM (f:=Ce) hi;have W:=h.1.2 _ (dP hi);have bi:=hF _ (dP hi);have bl:=h.1.1;generalize p.decls[i]=e at *;have aN:=UU p h e W;obtain ⟨v1,v2⟩:=OD h W;obtain ⟨e1,⟨e2,e3⟩,⟨e4,e5⟩,⟨e6,e7⟩,e8,⟨e9,b8⟩,a4,b9⟩:=W;have L:=fun n=>Eg p n h.1.1;have ac:=Fu p e.name h.1.1;have ai:=Ma p e.name e.sig.name h.1.1;have b3:=NV p h (DI p e) (by omega) v2 e.sig a4 (by omega);have bm:=a4.2.2.1.1;have c:met15 p i e=if AU p e.name≠1 then some e.pos else if e.vars.length≠(Bf p e.name).length then some e.pos else
   if EM p e.vars 0 e.vars=true then some e.pos else if DP p e.name e.sig.name≠some i then some e.pos else match sig15 p (DI p e) e.sig with
    | some x=>some x
    | none=>GL e.recv e.sig.params:=rfl
 refine Ax 112 Tryz.call73 Tryz.func73 ?_;simp only[go_sem];refine Aa fun _ ar=>Ac 2 fun v _=>?_;simp only[go_sem];refine ar (Aa fun _ aB=>Ac 7 fun B aP=>?_);simp only[go_sem,aW];refine aB (Aa fun _ aH=>?_);have a:B≠v:=Ar aP 2 0 (by simp[go_sem]);refine Ac 5 fun G ae=>?_;simp only[go_sem,a.symm];refine aH (Aa fun _ aI=>Aa fun _ R=>?_);have b:G≠v:=Ar ae 2 0 (by simp[go_sem,a]);have l:G≠B:=Ar ae 5 0 (by simp[go_sem]);refine AE fun _ _ _ _ z T=>Av 3 z ?_;simp only[go_sem,a,a.symm,b,l];by_cases K:AU p e.name=1
 ·rw[if_neg (by simp[K])] at c;refine Aw z (L e.name _ _) ?_;refine Av 8 z ?_;simp only[go_sem,K,a,a.symm,b,l];by_cases hl:e.vars.length=(Bf p e.name).length
  ·rw[if_neg (by simp[hl])] at c;have a0:(e.vars.length:Int)=((Bf p e.name).length:Int):=by omega
   refine Aw z (ac _ _) ?_;refine Ap 3 z ?_;simp only[go_sem,a0];refine T (R (Aj (Ae (aI (Aa fun _ aJ=>Aa fun _ aK=>Ac 1 fun _ _=>?_)))));simp only[go_sem];refine aK (Ai ?_);refine Ay (fun m s=>∃ k,k≤e.vars.length∧m=e.vars.length - k∧EM p e.vars 0 e.vars=EM p e.vars k (e.vars.drop k)∧Le { env:=[(1,dN i),(2,.ptr ⟨v,2,0⟩ 0),(4,.ptr ⟨v,4,0⟩ 0),(5,.ptr ⟨B,5,0⟩ 0),(6,.ptr ⟨G,6,0⟩ 0),(7,dN k)],σ:=[(⟨v,2,0⟩,.box 30 (prC p)),(⟨v,4,0⟩,.box 52 (rsC none)),(⟨B,5,0⟩,.box 48 (deC e)),(⟨G,6,0⟩,.box 52 (rsC (some e.pos)))] } s) e.vars.length ?_ ?_
   ·refine ⟨0,dX _,rfl,rfl,Ao ?_⟩;simp only[go_sem,a,a.symm,b,b.symm,l,l.symm];all_goals first|trivial|omega
   ·rintro m s ⟨k,bj,rfl,w,H⟩;refine Az H ?_;clear H;refine Aa fun _ aL=>Aa fun _ aa=>?_;by_cases t:k < e.vars.length
    ·have u:=@Mx p e.vars k t;have af:=getM (f:=encS) t;have ag:=GJ (e.vars.take k) (by rw[eD]; omega) e.vars[k];have b4:=abF e.vars k;have aX:((0:Int)≤(k:Int))=True:=eq_true (by omega);have aY:((k:Int)≤(e.vars.length:Int))=True:=eq_true (by omega);have b0:((0:Int)≤0)=True:=eq_true (by omega);generalize e.vars[k]=V at *;refine Ac 5 fun g6 aU=>?_;simp only[go_sem,t,a.symm,l];refine aa (Al (Ae (aL (Aa fun _ au=>Ai (Aa fun _ P=>AE fun _ _ _ _ A U=>Av 6 A ?_)))));simp only[go_sem,af,a,a.symm,b,l];by_cases N:AU p V=0
     ·rw[if_neg (by simp[N])] at u;refine Aw A (L V _ _) ?_;refine Av 11 A ?_;simp only[go_sem,N,af,b4,aX,aY,b0,ZK,a.symm,l];by_cases M:V∈e.vars.take k
      ·rw[if_pos M] at u;rw[w,u,if_pos rfl] at c;refine Aw A (ag _ _) ?_;refine Ap 1 A ?_;simp only[go_sem,M];refine U (P (Al (Aa fun _ av=>Ac 2 fun g9 aV=>?_)));simp only[go_sem,a,b,b.symm,l.symm];refine av (Ah ?_);rw[c];refine Ag ?_;simp only[go_sem,a,b];exact Co.refl _
      ·rw[if_neg M] at u;refine Aw A (ag _ _) ?_;refine Ap 1 A ?_;simp only[go_sem,M];refine U (P (Aj (Ae (au (Ac 3 fun _ _=>?_)))));simp only[go_sem];try simp (disch:=omega) only[Au]
       refine ⟨_,?_,k + 1,t,rfl,w.trans u,Ao ?_⟩
       ·omega
       simp only[go_sem,a,a.symm,b,b.symm,l,l.symm];all_goals first|trivial|omega
     ·rw[if_pos N] at u;rw[w,u,if_pos rfl] at c;refine Aw A (L V _ _) ?_;refine Ap 13 A ?_;simp only[go_sem,N];refine U (P (Al (Aa fun _ aw=>Ac 2 fun g9 aV=>?_)));simp only[go_sem,a,b,b.symm,l.symm];refine aw (Ah ?_);rw[c];refine Ag ?_;simp only[go_sem,a,b];exact Co.refl _
    ·have:k=e.vars.length:=by omega
     subst this;rw[eY,EM] at w;rw[w,if_neg (by decide)] at c;refine Ac 5 fun g6 aU=>?_;simp only[go_sem,t,a.symm,l];refine aa (Aj (Aq (aJ (Aa fun _ ax=>Aa fun _ a6=>Am fun _ _ _ _ J ab=>Af 6 J ?_))));simp only[go_sem,a,a.symm,b,l];by_cases I:DP p e.name e.sig.name=some i
     ·rw[if_neg (by simp[I])] at c;refine Ak J (ai _ _) ?_;refine Ad 2 J ?_;simp only[go_sem,I,optI];refine ab (a6 (Aj (Ae (ax (Aa fun _ ay=>AF 8 fun F Y _ _ D aM=>Av 3 D ?_)))));simp only[go_sem,a,a.symm,b,l];refine Aw D (aN _ _) ?_;refine Av 2 D ?_;simp only[go_sem,a.symm,l];refine Aw D (b3 _ _) ?_;refine Ap 1 D ?_;simp only[go_sem,rsD];refine Ad 1 D ?_;simp only[go_sem];refine aM (ay (Aa fun _ a7=>Aa fun _ az=>?_));have q:F≠v:=Ar Y 2 0 (by simp[go_sem]);have o:F≠B:=Ar Y 5 0 (by simp[go_sem,a.symm]);have b1:F≠G:=Ar Y 6 0 (by simp[go_sem,b.symm,l.symm])
      refine Ac 1 fun _ _=>?_;simp only[go_sem];refine az (Ai ?_);have aZ:((sig15 p (DI p e) e.sig=none→met15 p i e=GL e.recv (e.sig.params.drop 0))∧∀ y,sig15 p (DI p e) e.sig=some y→met15 p i e=some y):=⟨fun C=>by rw[c,C]; rfl,fun y C=>by rw[c,C]⟩
      clear c w;refine Ay (fun m s=>∃ k r,k≤e.sig.params.length∧m=e.sig.params.length - k∧((r=none→met15 p i e=GL e.recv (e.sig.params.drop k))∧∀ y,r=some y→met15 p i e=some y)∧Le { env:=[(2,.ptr ⟨v,2,0⟩ 0),(4,.ptr ⟨v,4,0⟩ 0),(5,.ptr ⟨B,5,0⟩ 0),(8,.ptr ⟨F,8,0⟩ 0),(9,dN k)],σ:=[(⟨v,2,0⟩,.box 30 (prC p)),(⟨v,4,0⟩,.box 52 (rsC none)),(⟨B,5,0⟩,.box 48 (deC e)),(⟨F,8,0⟩,.box 52 (rsC r))] } s) e.sig.params.length ?_ ?_
      ·refine ⟨0,_,dX _,rfl,aZ,Ao ?_⟩;simp only[go_sem,a,a.symm,b,l,q,q.symm,o,o.symm,b1.symm];all_goals first|trivial|omega
      ·rintro m s ⟨k,r,bk,rfl,⟨a2,aj⟩,H⟩;refine Az H ?_;clear H;refine Aa fun _ aA=>Aa fun _ Q=>?_;by_cases t:k < e.sig.params.length
       ·cases r with
        | some y =>
         have c:=aj y rfl;refine Ac 11 fun a5 ad=>?_;simp only[go_sem,t,a.symm,q.symm,o,o.symm];refine Q (Aj (Aq (a7 (Aa fun _ aC=>Ac 2 fun an aS=>?_))));simp only[go_sem,a,q,q.symm,o.symm];refine aC (Ah ?_);rw[c];refine Ag ?_;simp only[go_sem,a,q];exact Co.refl _
        | none =>
         have u:=@UW e.recv e.sig.params k t;have w:=a2 rfl;have Z:=getM (f:=Bt) t;generalize e.sig.params[k]=X at *;refine Ac 11 fun a5 ad=>?_;simp only[go_sem,t,a.symm,q.symm,o,o.symm];refine Q (Al (Ae (aA (Aa fun _ a8=>Ai (Aa fun _ a9=>?_)))));by_cases O:X.name=e.recv
         ·rw[if_pos O] at u;refine AE fun am aR b5 ak a1 S=>Ap 10 a1 ?_;simp only[go_sem,Z,O,a.symm,o];refine S (a9 (Al (Ac 9 fun _ _=>?_)));simp only[go_sem,Z,a.symm,q.symm,o,o.symm];refine a8 (Ac 3 fun al aQ=>?_);simp only[go_sem];try simp (disch:=omega) only[Au]
          refine ⟨_,?_,k + 1,some X.pos,t,rfl,⟨fun C=>(nomatch C),fun y hy=>(w.trans u).trans hy⟩,Ao ?_⟩
          ·omega
          simp only[go_sem,a,a.symm,q,q.symm,o,o.symm];all_goals first|trivial|omega
         ·rw[if_neg O] at u;refine AE fun am aR b5 ak a1 S=>Ap 10 a1 ?_;simp only[go_sem,Z,O,a.symm,o];refine S (a9 (Aj (Ae (a8 (Ac 3 fun al aQ=>?_)))));simp only[go_sem];try simp (disch:=omega) only[Au]
          refine ⟨_,?_,k + 1,none,t,rfl,⟨fun C=>w.trans u,fun y hy=>(nomatch hy)⟩,Ao ?_⟩
          ·omega
          simp only[go_sem,a,a.symm,q,q.symm,o,o.symm];all_goals first|trivial|omega
       ·have:k=e.sig.params.length:=by omega
        subst this;rw[eY,GL] at a2;have c:met15 p i e=r:=by
         cases r with
         | none=>exact a2 rfl
         | some y=>exact aj y rfl
        refine Ac 11 fun a5 ad=>?_;simp only[go_sem,t,a.symm,o];refine Q (Aj (Aq (a7 (Aa fun _ aD=>Ac 2 fun an aS=>?_))));simp only[go_sem,a,q,q.symm,o.symm];refine aD (Ah ?_);rw[c];refine Ag ?_;simp only[go_sem,a,q];exact Co.refl _
     ·rw[if_pos I] at c;have aO:¬ optI (DP p e.name e.sig.name)=(i:Int):=by
       cases hq:DP p e.name e.sig.name with
       | none=>simp only[optI]; omega
       | some j =>
        rw[hq] at I;simp only[optI];intro C;exact I (by rw[show j=i by omega])
      refine Ak J (ai _ _) ?_;refine Ad 2 J ?_;simp only[go_sem,aO];refine ab (a6 (Al (Aa fun _ aE=>Ac 2 fun _ _=>?_)));simp only[go_sem,a,b,b.symm,l.symm];refine aE (Ah ?_);rw[c];refine Ag ?_;simp only[go_sem,a,b];exact Co.refl _
  ·rw[if_pos hl] at c;have a0:¬ (e.vars.length:Int)=((Bf p e.name).length:Int):=by omega
   refine Aw z (ac _ _) ?_;refine Ap 3 z ?_;simp only[go_sem,a0];refine T (R (Al (Aa fun _ aF=>Ac 2 fun g4 aT=>?_)));simp only[go_sem,a,b,b.symm,l.symm];refine aF (Ah ?_);rw[c];refine Ag ?_;simp only[go_sem,a,b];exact Co.refl _
 ·rw[if_pos K] at c;refine Aw z (L e.name _ _) ?_;refine Ap 12 z ?_;simp only[go_sem,K];refine T (R (Al (Aa fun _ aG=>Ac 2 fun g4 aT=>?_)));simp only[go_sem,a,b,b.symm,l.symm];refine aG (Ah ?_);rw[c];refine Ag ?_;simp only[go_sem,a,b];exact Co.refl _
noncomputable def hd15 (p:Prg) (i:Nat) (e:Dec):Option Int:=if e.kind=1∨e.kind=2 then typ15 p i e else if e.kind=3 then met15 p i e else some e.pos
set_option maxRecDepth 100000 in
set_option maxHeartbeats 1000000 in
theorem WG (p:Prg) (h:smPr p) (hF:Lg p) (i:Nat) (hi:i < p.decls.length) (g d:Nat):ACalls E 37 [AZ p,dN i] [] g d (rsD (hd15 p i p.decls[i])) []:=by
 have s:=getM (f:=Ce) hi;have t:=UV p h hF i hi;have N:=UX p h hF i hi;have x:((i:Int) < 0)=False:=eq_false (by omega);have y:((p.decls.length:Int)≤(i:Int))=False:=eq_false (by omega);have a:hd15 p i p.decls[i]=if p.decls[i].kind=1∨p.decls[i].kind=2 then typ15 p i p.decls[i] else if p.decls[i].kind=3 then met15 p i p.decls[i] else some p.decls[i].pos:=rfl
 generalize p.decls[i]=e at *;refine Ax 43 Tryz.call37 Tryz.func37 ?_;simp only[go_sem];refine Aa fun _ z=>Ac 2 fun _ _=>?_;simp only[go_sem];refine z (Aa fun _ C=>Aa fun _ D=>Ac 9 fun _ _=>?_);simp only[go_sem,x,y];refine D (Aj (Ae (C (Aa fun _ F=>Ac 7 fun _ _=>?_))));simp only[go_sem,s];refine F (Aa fun _ G=>Aa fun _ l=>?_);by_cases c:e.kind=1
 ·rw[if_pos (.inl c)] at a;refine Ac 6 fun o r=>?_;simp only[go_sem,c];refine l (Al (Aa fun _ H=>Am fun v L O u b m=>Af 2 b ?_));simp only[go_sem];refine Ak b (t _ _) ?_;refine Ad 1 b ?_;simp only[go_sem,rsD];refine m (H (Ah ?_));rw[a];refine Ag ?_;simp only[go_sem];exact Co.refl _
 ·by_cases j:e.kind=2
  ·rw[if_pos (.inr j)] at a;refine Ac 6 fun o r=>?_;simp only[go_sem,j];refine l (Al (Aa fun _ I=>Am fun v L O u b m=>Af 2 b ?_));simp only[go_sem];refine Ak b (t _ _) ?_;refine Ad 1 b ?_;simp only[go_sem,rsD];refine m (I (Ah ?_));rw[a];refine Ag ?_;simp only[go_sem];exact Co.refl _
  ·rw[if_neg (by simp[c,j])] at a;refine Ac 6 fun o r=>?_;simp only[go_sem,c,j];refine l (Aj (Ae (G (Aa fun _ J=>Aa fun _ q=>?_))));by_cases k:e.kind=3
   ·rw[if_pos k] at a;refine Ac 2 fun w M=>?_;simp only[go_sem,k];refine q (Al (Aa fun _ A=>Am fun _ _ _ _ n K=>Af 2 n ?_));simp only[go_sem];refine Ak n (N _ _) ?_;refine Ad 1 n ?_;simp only[go_sem,rsD];refine K (A (Ah ?_));rw[a];refine Ag ?_;simp only[go_sem];exact Co.refl _
   ·rw[if_neg k] at a;refine Ac 2 fun w M=>?_;simp only[go_sem,k];refine q (Aj (Ae (J (Aa fun _ B=>Ac 8 fun _ _=>?_))));simp only[go_sem,s];refine B (Ah ?_);rw[a];refine Ag ?_;simp only[go_sem];exact Co.refl _
structure Rz where
 pos:Int
 bad:Bool
 large:Bool
def rC (r:Rz):List D:=[dI r.pos,dB r.bad,dB r.large]
def encR (r:Rz):D:=.agg (rC r)
def okR:Rz:=⟨0,false,false⟩
def badR (i:Int):Rz:=⟨i,true,false⟩
def TL:Rz:=⟨0,true,true⟩
def ofO:Option Int→Rz
 | none=>okR
 | some i=>badR i
structure Cx where
 p:Prg
 strict:Bool
 env:List Formal
 vars:List Param
def cxC (c:Cx):List D:=prC c.p++[dB c.strict,slFm c.env,slPa c.vars]
def F6 (c:Cx):D:=.agg (cxC c)
theorem UY (c:Cx):(F6 c).cells=cxC c:=rfl
theorem WH (r:Rz):(encR r).cells=rC r:=rfl
attribute [go_sem] UY F6 cxC WH encR rC
def smCx (c:Cx):Prop:=smPr c.p∧(c.env.length≤1000000∧∀ f∈c.env,smFm f)∧(c.vars.length≤1000000∧∀ f∈c.vars,smPa f)
def trD (x:Ty × Rz):D:=.tup [AC x.1,encR x.2]
def noR (i:Int):Ty × Rz:=(BV,badR i)
theorem coNo (i:Int):Co (.tup [.agg [.val (.string ByteArray.empty),.val (.slice none 0 0),dI 0],.agg [dI i,dB true,dB false]]) (trD (noR i)):=.tup (.cons Ta (.cons (.refl _) .nil))
set_option maxRecDepth 100000 in
theorem BD (i:Int) (g d:Nat):ACalls E 76 [dI i] [] g d (trD (noR i)) []:=by
 refine Ax 7 Tryz.call76 Tryz.func76 ?_;simp only[go_sem];refine Aa fun _ a=>Ac 2 fun _ _=>?_;simp only[go_sem];refine a (Aa fun _ b=>Ac 5 fun _ _=>?_);simp only[go_sem];refine b (Ah (Ag ?_));simp only[go_sem];exact coNo i
noncomputable def GM (c:Cx) (x:Ty):Bool:=decide (Ci c.env x < 0) && BN c.p x 1
noncomputable def GN (c:Cx) (x:Ty):Bool:=decide (0≤Ci c.env x) || BN c.p x 2
set_option maxRecDepth 100000 in
theorem HO (c:Cx) (hc:smCx c) (x:Ty) (hx:smTy x) (g d:Nat):ACalls E 78 [F6 c,AC x] [] g d (dB (GM c x)) []:=by
 have b:=FE c.env x (by have:=hc.2.1.1; omega) hx.ok;change ∀ g d,ACalls E _ _ _ g d (dI (Ci c.env x)) _ at b;have i:=CU c.p x 1 hc.1.1.1;refine Ax 16 Tryz.call78 Tryz.func78 ?_;simp only[go_sem];refine Aa fun _ h=>Ac 3 fun _ _=>?_;simp only[go_sem];refine h (Aa fun _ e=>Am fun _ _ _ _ a f=>Af 3 a ?_);simp only[go_sem];by_cases h0:Ci c.env x < 0
 ·refine Ak a (b _ _) ?_;refine Af 5 a ?_;simp only[go_sem,h0];refine Ak a (i _ _) ?_;refine Ad 2 a ?_;simp only[go_sem];refine f (e (Ah (Ag ?_)));simp only[go_sem];exact Co.of_eq (by simp[GM,h0])
 ·refine Ak a (b _ _) ?_;refine Ad 8 a ?_;simp only[go_sem,h0];refine f (e (Ah (Ag ?_)));simp only[go_sem];exact Co.of_eq (by simp[GM,h0])
set_option maxRecDepth 100000 in
theorem LB (c:Cx) (hc:smCx c) (x:Ty) (hx:smTy x) (g d:Nat):ACalls E 83 [F6 c,AC x] [] g d (dB (GN c x)) []:=by
 have b:=FE c.env x (by have:=hc.2.1.1; omega) hx.ok;change ∀ g d,ACalls E _ _ _ g d (dI (Ci c.env x)) _ at b;have i:=CU c.p x 2 hc.1.1.1;refine Ax 16 Tryz.call83 Tryz.func83 ?_;simp only[go_sem];refine Aa fun _ h=>Ac 3 fun _ _=>?_;simp only[go_sem];refine h (Aa fun _ e=>Am fun _ _ _ _ a f=>Af 3 a ?_);simp only[go_sem];by_cases h0:0≤Ci c.env x
 ·refine Ak a (b _ _) ?_;refine Ad 8 a ?_;simp only[go_sem,h0];refine f (e (Ah (Ag ?_)));simp only[go_sem];exact Co.of_eq (by simp[GN,h0])
 ·refine Ak a (b _ _) ?_;refine Af 5 a ?_;simp only[go_sem,h0];refine Ak a (i _ _) ?_;refine Ad 2 a ?_;simp only[go_sem];refine f (e (Ah (Ag ?_)));simp only[go_sem];exact Co.of_eq (by simp[GN,h0])
noncomputable def FY (x:Ty) (r:Rz):Ty × Rz:=if r.bad=false∧400 < count x 0 then (BV,TL) else (x,r)
theorem coLg:Co (.tup [.agg [.val (.string ByteArray.empty),.val (.slice none 0 0),dI 0],.agg [dI 0,dB true,dB true]]) (trD (BV,TL)):=.tup (.cons Ta (.cons (.refl _) .nil))
set_option maxRecDepth 100000 in
theorem LC (x:Ty) (r:Rz) (hx:smTy x) (g d:Nat):ACalls E 81 [AC x,encR r] [] g d (trD (FY x r)) []:=by
 have m:=DZ x hx.ok 0;have a:FY x r=if r.bad=false∧400 < count x 0 then (BV,TL) else (x,r):=rfl
 refine Ax 18 Tryz.call81 Tryz.func81 ?_;simp only[go_sem];refine Aa fun _ s=>Ac 4 fun j _=>?_;simp only[go_sem];refine s (Aa fun _ k=>Aa fun _ h=>?_);cases e:r.bad with
 | true =>
  rw[if_neg (by simp[e])] at a;refine Ac 8 fun p w=>?_;simp only[go_sem];refine h (Aj (Ae (k (Aa fun _ t=>?_))));refine D1 2 ⟨j,4,0⟩ rfl rfl rfl rfl (by kernel_rfl) rfl ?_;simp only[go_sem];intro q y z o c i;refine Ap 2 c ?_;simp only[go_sem];refine Ad 1 c ?_;simp only[go_sem];refine i _ (t (Ah ?_));rw[a];refine Ag ?_;simp only[go_sem];exact Co.of_eq (by simp[trD,encR,rC,e])
 | false =>
  refine Am fun p w _ _ b l=>Af 5 b ?_;simp only[go_sem];by_cases n:400 < count x 0
  ·rw[if_pos ⟨e,n⟩] at a;have f:((400:Int) < ((count x 0:Nat):Int))=True:=eq_true (by omega);refine AA b rfl rfl rfl (m _ _ (by omega)) (CoL.refl _) ?_;refine Ad 2 b ?_;simp only[go_sem,f];refine l (h (Al (Aa fun _ u=>Ac 4 fun _ f=>?_)));simp only[go_sem];refine u (Ah ?_);rw[a];refine Ag ?_;simp only[go_sem];exact coLg
  ·rw[if_neg (by simp[n])] at a;have f:((400:Int) < ((count x 0:Nat):Int))=False:=eq_false (by omega);refine AA b rfl rfl rfl (m _ _ (by omega)) (CoL.refl _) ?_;refine Ad 2 b ?_;simp only[go_sem,f];refine l (h (Aj (Ae (k (Aa fun _ v=>?_)))));refine D1 2 ⟨j,4,0⟩ rfl rfl rfl rfl (by kernel_rfl) rfl ?_;simp only[go_sem];intro q y z o c i;refine Ap 2 c ?_;simp only[go_sem];refine Ad 1 c ?_;simp only[go_sem];refine i _ (v (Ah ?_));rw[a];refine Ag ?_;simp only[go_sem];exact Co.of_eq (by simp[trD,encR,rC,e])
noncomputable def DR:List Param→Str→Option Ty
 | [],_=>none
 | q :: l,n=>if q.name=n then some q.type else DR l n
theorem NX {l:List Param} {n:Str} {k:Nat} (h:k < l.length):DR (l.drop k) n=if l[k].name=n then some l[k].type else DR (l.drop (k + 1)) n:=by
 rw[ek h,DR]
theorem GO {n:Str}:∀ {l:List Param} {t:Ty},DR l n=some t→∃ q∈l,q.name=n∧q.type=t
 | [],_,h=>by simp[DR] at h
 | q :: l,t,h=>by
  unfold DR at h;split at h
  ·rename_i hn;cases h;exact ⟨q,dY,hn,rfl⟩
  ·obtain ⟨q',h1,h2⟩:=GO h;exact ⟨q',ea _ h1,h2⟩
structure Kn where
 pos:Int
 ty:Ty
 res:Rz
noncomputable def fitR (c:Cx) (q:Kn) (w:Ty):Rz:=if q.res.bad=true then q.res else if Dr c.p c.env q.ty w=true then q.res else badR q.pos
noncomputable def E4 (c:Cx):List Kn→List Ty→Rz
 | q :: l,w :: ws=>if (fitR c q w).bad=true then fitR c q w else E4 c l ws
 | _,_=>okR
noncomputable def fldX (p:Prg) (x:Ty):List Param:=JU ((tyDe p x.name).getD BM) x.args
noncomputable def Nb (c:Cx) (s:Sig) (ta:List Ty) (pos:Int) (ks:List Kn):Ty × Rz :=
 if s.formals.length≠ta.length then noR pos else
 match Dz c.p c.env ta with
 | some j=>noR j
 | none=>match Hs c.p c.env s.formals ta with
  | some k=>noR (ta.getD k BV).pos
  | none=>if ks.length≠s.params.length then noR pos else
   FY (AD (s.formals.map (·.name)) ta s.result) (E4 c ks (s.params.map fun q=>AD (s.formals.map (·.name)) ta q.type))
noncomputable def Nc (c:Cx) (n:Str) (ta:List Ty) (pos:Int) (x:Ty) (ks:List Kn):Ty × Rz :=
 match CL (Bq c.p c.env x) n with
 | none=>noR pos
 | some i=>Nb c ((Bq c.p c.env x).getD i Bw) ta pos ks
noncomputable def bndT (c:Cx) (x:Ty):Ty:=if 0≤Ci c.env x then ((c.env[(Ci c.env x).toNat]?).map (·.bound)).getD x else x
noncomputable def VF (c:Cx) (x t:Ty):Bool:=!GN c x || (!GN c t && !Dr c.p c.env t (bndT c x))
noncomputable def PR (c:Cx) (n:Str) (pos:Int) (x:Ty) (r:Rz):Ty × Rz :=
 if GM c x=false then noR pos else match DR (fldX c.p x) n with
  | some u=>FY u r
  | none=>noR pos
noncomputable def PS (c:Cx) (t:Ty) (pos:Int) (x:Ty) (r:Rz):Ty × Rz:=match BR c.p c.env t with
 | some i=>noR i
 | none=>if c.strict=true∧VF c x t=true then noR pos else (t,r)
noncomputable def litR (c:Cx) (t:Ty) (pos:Int) (ks:List Kn):Ty × Rz:=match BR c.p c.env t with
 | some i=>noR i
 | none=>if GM c t=false then noR pos else if (fldX c.p t).length≠ks.length then noR pos else (t,E4 c ks ((fldX c.p t).map fun q=>AD [] [] q.type))
noncomputable def Nf (c:Cx) (k:Int) (n:Str) (t:Ty) (ta:List Ty) (pos:Int) (q:Kn) (ks:List Kn):Ty × Rz :=
 if q.res.bad=true then (q.ty,q.res) else if k=2 then Nc c n ta pos q.ty ks else if k=4 then PR c n pos q.ty q.res else PS c t pos q.ty q.res
noncomputable def Fg (c:Cx) (k:Int) (n:Str) (t:Ty) (ta:List Ty) (pos:Int) (ks:List Kn):Ty × Rz :=
 if k=1 then (match DR c.vars n with | some u=>(u,okR) | none=>noR pos)
 else if k=3 then litR c t pos ks
 else if k≠2∧k≠4∧k≠5 then noR pos else match ks with
  | []=>noR pos
  | q :: rest=>Nf c k n t ta pos q rest
mutual
noncomputable def inf (c:Cx):Ex→Ty × Rz
 | .mk k n t ta ks pos=>Fg c k n t ta pos (infs c ks)
noncomputable def infs (c:Cx):List Ex→List Kn
 | []=>[]
 | .mk k n t ta ks pos :: r=>⟨pos,(Fg c k n t ta pos (infs c ks)).1,(Fg c k n t ta pos (infs c ks)).2⟩ :: infs c r
end
noncomputable def kn (c:Cx) (e:Ex):Kn:=⟨e.pos,(inf c e).1,(inf c e).2⟩
theorem VG (c:Cx):∀ l,infs c l=l.map (kn c)
 | []=>by rw[infs]; rfl
 | .mk k n t ta ks pos :: r=>by
  rw[infs,VG c r,eM]
  congr 1
theorem PT (c:Cx) (e:Ex):inf c e=Fg c e.kind e.name e.type e.targs e.pos (e.kids.map (kn c)):=by
 cases e;rw[inf,VG]
 rfl
theorem WI {c:Cx} {l:List Kn} {ws:List Ty} {k:Nat} (h1:k < l.length) (h2:k < ws.length):E4 c (l.drop k) (ws.drop k)=if (fitR c l[k] ws[k]).bad=true then fitR c l[k] ws[k] else E4 c (l.drop (k + 1)) (ws.drop (k + 1)):=by
 rw[ek h1,ek h2,E4]
def InfC (c:Cx) (e:Ex):Prop:=∀ g d,ACalls E 39 [F6 c,AK e] [] g d (trD (inf c e)) []
set_option maxRecDepth 100000 in
set_option maxHeartbeats 1000000 in
theorem NY (c:Cx) (hc:smCx c) (e:Ex) (hT:InfC c e) (hx:smTy (inf c e).1) (w:Ty) (hw:smTy w) (g d:Nat):ACalls E 74 [F6 c,AK e,AC w] [] g d (encR (fitR c (kn c e) w)) []:=by
 have k:=EK c.p hc.1 c.env hc.2.1.1 hc.2.1.2 (inf c e).1 w hx hw;have b:fitR c (kn c e) w=if (inf c e).2.bad=true then (inf c e).2 else if Dr c.p c.env (inf c e).1 w=true then (inf c e).2 else badR e.pos:=rfl
 unfold InfC at hT;generalize inf c e=G at *;obtain ⟨x,r⟩:=G;simp only at b k;refine Ax 32 Tryz.call74 Tryz.func74 ?_;simp only[go_sem];refine Aa fun _ u=>Ac 4 fun o _=>?_;simp only[go_sem];refine u (Aa fun _ v=>Am fun q C _ _ l B=>Af 2 l ?_);simp only[go_sem];refine Ak l (hT _ _) ?_;refine Ad 7 l ?_;simp only[go_sem,trD];refine B (v (Aa fun _ m=>Aa fun _ j=>?_));have a:q≠o:=Ar C 3 0 (by simp[go_sem]);cases h:r.bad with
 | true =>
  rw[if_pos h] at b;refine Ac 13 fun s D=>?_;simp only[go_sem,a.symm];refine j (Aj (Ae (m (Aa fun _ y=>Ac 2 fun t F=>?_))));simp only[go_sem,a,a.symm];refine y (Ah ?_);rw[b];refine Ag ?_;simp only[go_sem,a];exact Co.of_eq (by simp[h])
 | false =>
  rw[if_neg (by simp[h])] at b;refine Am fun s D _ _ f n=>Af 10 f ?_;simp only[go_sem,a,a.symm];cases i:Dr c.p c.env x w with
  | true =>
   rw[if_pos i] at b;refine Ak f (k _ _) ?_;refine Ad 2 f ?_;simp only[go_sem,i];refine n (j (Aj (Ae (m (Aa fun _ z=>Ac 2 fun t F=>?_)))));simp only[go_sem,a,a.symm];refine z (Ah ?_);rw[b];refine Ag ?_;simp only[go_sem,a];exact Co.of_eq (by simp[h])
  | false =>
   rw[if_neg (by simp[i])] at b;refine Ak f (k _ _) ?_;refine Ad 2 f ?_;simp only[go_sem,i];refine n (j (Al (Aa fun _ A=>Ac 4 fun _ _=>?_)));simp only[go_sem,a];refine A (Ah ?_);rw[b];refine Ag ?_;simp only[go_sem,a];exact Co.refl _
theorem Yf (c:Cx) (ws:List Ty):E4 c [] ws=okR:=by cases ws <;> simp[E4]
set_option maxRecDepth 100000 in
set_option maxHeartbeats 1000000 in
theorem NZ (c:Cx) (hc:smCx c) (l:List Ex) (hl:l.length≤1000000) (hT:∀ e∈l,InfC c e) (hx:∀ e∈l,smTy (inf c e).1) (ps:List Param) (hps:∀ q∈ps,smPa q) (hlp:l.length≤ps.length) (ns:List Str) (us:List Ty) (hns:ns.length≤1000000) (hus:∀ t∈us,smTy t) (g d:Nat) :
  ACalls E 79 [F6 c,slEx l,slPa ps,slS ns,slTy us] [] g d (encR (E4 c (l.map (kn c)) (ps.map fun q=>AD ns us q.type))) []:=by
 have a2:=fun t ht=>BB ns us hns hus t ht;have F:=fun e x w hw=>NY c hc e (hT e x) (hx e x) w hw;generalize p:l.map (kn c)=K;generalize v:(ps.map fun q=>AD ns us q.type)=W;have a5:K.length=l.length:=by rw[← p,ei]
 have a6:W.length=ps.length:=by rw[← v,ei]
 refine Ax 37 Tryz.call79 Tryz.func79 ?_;simp only[go_sem];refine Aa fun _ H=>Ac 2 fun b _=>?_;simp only[go_sem];refine H (Aa fun _ J=>Aa fun _ L=>Ac 1 fun _ _=>?_);simp only[go_sem];refine L (Ai ?_);refine Ay (fun m s=>∃ k,k≤l.length∧m=l.length - k∧E4 c K W=E4 c (K.drop k) (W.drop k)∧Le { env:=[(1,slEx l),(2,slPa ps),(3,slS ns),(4,slTy us),(5,.ptr ⟨b,5,0⟩ 0),(10,.ptr ⟨b,10,0⟩ 0),(11,dN k)],σ:=[(⟨b,5,0⟩,.box 72 (cxC c)),(⟨b,10,0⟩,.box 52 (rC okR))] } s) l.length ?_ ?_
 ·refine ⟨0,dX _,rfl,rfl,Ao ?_⟩;simp only[go_sem,okR];all_goals first|trivial|omega
 ·rintro m s ⟨k,hk,rfl,n,z⟩;refine Az z ?_;clear z;refine Aa fun _ M=>Aa fun _ r=>?_;by_cases h:k < l.length
  ·have y:k < ps.length:=by omega
   have j:=@WI c K W k (by omega) (by omega);have Z:=getM (f:=AK) h;have a0:=getM (f:=Bt) y;have hm:=dP h;have A:=(hps _ (dP y)).2;have S:K[k]'(by omega)=kn c l[k]:=by subst p; rw[fY]
   have T:W[k]'(by omega)=AD ns us ps[k].type:=by subst v; rw[fY]
   rw[S,T] at j;have G:=F _ hm _ (Bp (ns:=ns) hus _ A);generalize l[k]=X at *;generalize ps[k]=P at *;refine Ac 4 fun B U=>?_;simp only[go_sem,h,okR];refine r (Al (Ae (M (Aa fun _ N=>Ai (Aa fun _ O=>AF 15 fun C V _ _ i R=>Av 12 i ?_)))));simp only[go_sem,Z,a0];refine Aw i (a2 _ A _ _) ?_;refine Aw i (G _ _) ?_;refine Ap 1 i ?_;simp only[go_sem];refine Ad 1 i ?_;simp only[go_sem];refine R (O (Aa fun _ u=>?_));have a:C≠b:=Ar V 5 0 (by simp[go_sem]);cases o:(fitR c (kn c X) (AD ns us P.type)).bad with
   | true =>
    rw[if_pos o] at j;refine Ac 2 fun D Y=>?_;simp only[go_sem,a.symm];refine u (Al (Aa fun _ Q=>Ac 2 fun _ _=>?_));simp only[go_sem,a,a.symm];refine Q (Ah ?_);rw[n,j];refine Ag ?_;simp only[go_sem,a];exact Co.of_eq (by simp[o])
   | false =>
    rw[if_neg (by simp[o])] at j;refine Ac 2 fun D Y=>?_;simp only[go_sem,a.symm];refine u (Aj (Ae (N (Ac 3 fun _ _=>?_))));simp only[go_sem,okR];try simp (disch:=omega) only[Au]
    refine ⟨_,?_,k + 1,h,rfl,n.trans j,Ao ?_⟩
    ·omega
    simp only[go_sem,a];all_goals first|trivial|omega
  ·have:k=l.length:=by omega
   subst this;rw[List.drop_of_length_le (by omega:K.length≤l.length),Yf] at n;refine Ac 4 fun B U=>?_;simp only[go_sem,h,okR];refine r (Aj (Aq (J (Aa fun _ I=>Ac 2 fun _ _=>?_))));simp only[go_sem];refine I (Ah ?_);rw[n];refine Ag ?_;simp only[go_sem,okR];exact Co.refl _
theorem Gn {l:List Sig} {n:Str} {i:Nat} (h:CL l n=some i):i < l.length:=by
 unfold CL at h;exact (eU.1 h).1
theorem aa9 (l:List Ex) (k:Nat):(l.map AK).drop k=(l.drop k).map AK:=List.map_drop.symm
theorem Yg (l:List Ex):GW 8 (l.map AK):=fun _ hr=>by
 obtain ⟨f,_,rfl⟩:=eh.1 hr;rw[Nt]
 rfl
set_option maxRecDepth 100000 in
set_option maxHeartbeats 4000000 in
theorem UZ (c:Cx) (hc:smCx c) (e e0:Ex) (rest:List Ex) (hk:e.kids=e0 :: rest) (he:smEx e) (hT:∀ e∈rest,InfC c e) (hx:∀ e∈rest,smTy (inf c e).1) (x:Ty) (hxs:smTy x) (g d:Nat) :
  ACalls E 80 [F6 c,AK e,AC x] [] g d (trD (Nc c e.name e.targs e.pos x (rest.map (kn c)))) []:=by
 obtain ⟨s1,s2,⟨s3,B⟩,s5,s6⟩:=(Bd e).1 he;have bj:=GF c.p hc.1 c.env hc.2.1.1 hc.2.1.2 x hxs;obtain ⟨l1,l2⟩:=Ha hc.1 hc.2.1.2 hxs;have ac:=Fl (Bq c.p c.env x) e.name (by omega);have b:Nc c e.name e.targs e.pos x (rest.map (kn c))=match CL (Bq c.p c.env x) e.name with
  | none=>noR e.pos
  | some i=>Nb c ((Bq c.p c.env x).getD i Bw) e.targs e.pos (rest.map (kn c)):=rfl
 have bt:e.kids.length=rest.length + 1:=by rw[hk]; rfl
 have b4:e.kids.drop 1=rest:=by rw[hk]; rfl
 have b3:=fun t ht=>Ei c.p hc.1 c.env hc.2.1.1 hc.2.1.2 t ht;have F:=@Gn (Bq c.p c.env x) e.name;generalize Bq c.p c.env x=S at *;refine Ax 131 Tryz.call80 Tryz.func80 ?_;simp only[go_sem];refine Aa fun _ az=>Ac 5 fun h _=>?_;simp only[go_sem];refine az (Aa fun _ aH=>Am fun _ _ _ _ Q aW=>Af 5 Q ?_);simp only[go_sem];refine Ak Q (bj _ _) ?_;refine Ad 1 Q ?_;simp only[go_sem];refine aW (aH (Aa fun _ a4=>Am fun _ _ _ _ z a7=>Af 3 z ?_));simp only[go_sem];cases w:CL S e.name with
 | none =>
  rw[w] at b;have h0:((-1:Int) < 0)=True:=eq_true (by decide);refine Ak z (ac _ _) ?_;refine Ad 1 z ?_;simp only[go_sem,w,optI];refine a7 (a4 (Aa fun _ _=>Aa fun _ aS=>AE fun Z ae ak X A u=>Ap 14 A ?_));simp only[go_sem,h0];refine u (aS (Al (Aa fun _ aT=>Am fun g4 b9 bo ap l K=>Af 2 l ?_)));simp only[go_sem];refine Ak l (BD _ _ _) ?_;refine Ad 4 l ?_;simp only[go_sem,trD,noR,badR];refine K (aT (Ah ?_));rw[b];refine Ag ?_;simp only[go_sem,trD,noR,badR];exact Co.refl _
 | some i =>
  rw[w] at b;have M:=F w;have h0:((i:Int) < 0)=False:=eq_false (by omega);have L:=getM (f:=AH) M;have bc:S.getD i Bw=S[i]:=by rw[fl,dO M]; rfl
  have hs:=l2 _ (dP M);simp only[bc] at b;generalize S[i]=s at *;obtain ⟨q1,⟨q2,q3⟩,⟨q4,q5⟩,q6⟩:=hs;have aa:Nb c s e.targs e.pos (rest.map (kn c))=if s.formals.length≠e.targs.length then noR e.pos else
   match Dz c.p c.env e.targs with
   | some j=>noR j
   | none=>match Hs c.p c.env s.formals e.targs with
    | some k=>noR (e.targs.getD k BV).pos
    | none=>if (rest.map (kn c)).length≠s.params.length then noR e.pos else
     FY (AD (s.formals.map (·.name)) e.targs s.result) (E4 c (rest.map (kn c)) (s.params.map fun q=>AD (s.formals.map (·.name)) e.targs q.type)):=rfl
  rw[aa] at b;clear aa;refine Ak z (ac _ _) ?_;refine Ad 1 z ?_;simp only[go_sem,w,optI];refine a7 (a4 (Aa fun _ aU=>Aa fun _ a5=>?_));by_cases hl:s.formals.length=e.targs.length
  ·have P:(s.formals.length:Int)=(e.targs.length:Int):=by omega
   rw[if_neg (by simp[hl])] at b;refine AE fun Z ae ak X A u=>Ap 14 A ?_;simp only[go_sem,h0,L,AH,P];refine u (a5 (Aj (Ae (aU (Aa fun _ aV=>Ac 6 fun C ba=>?_)))));simp only[go_sem,L,AH];refine aV (Aa fun _ aA=>Aa fun _ aB=>?_);have a:C≠h:=Ar ba 3 0 (by simp[go_sem]);refine Ac 1 fun _ _=>?_;simp only[go_sem];refine aB (Ai ?_)
   refine Ay (fun m st=>∃ k,k≤e.targs.length∧m=e.targs.length - k∧Dz c.p c.env e.targs=Dz c.p c.env (e.targs.drop k)∧Le { env:=[(3,.ptr ⟨h,3,0⟩ 0),(4,.ptr ⟨h,4,0⟩ 0),(6,.ptr ⟨h,6,0⟩ 0),(7,.ptr ⟨h,7,0⟩ 0),(10,.ptr ⟨C,10,0⟩ 0),(11,dN k)],σ:=[(⟨h,3,0⟩,.box 72 (cxC c)),(⟨h,4,0⟩,.box 28 (exC e)),(⟨h,6,0⟩,.box 25 [.val (.string ByteArray.empty),.val (.slice none 0 0),dI 0]),(⟨h,7,0⟩,.box 52 (rC okR)),(⟨C,10,0⟩,.box 46 (siC s))] } st) e.targs.length ?_ ?_
   ·refine ⟨0,dX _,rfl,rfl,Ao ?_⟩;simp only[go_sem,okR,a,a.symm];all_goals first|trivial|omega
   ·rintro m st ⟨k,bs,rfl,D,ah⟩;refine Az ah ?_;clear ah;refine Aa fun _ aC=>Aa fun _ a0=>?_;by_cases o:k < e.targs.length
    ·have I:=@NI c.p c.env e.targs k o;have hgt:=getM (f:=AC) o;have ab:=b3 _ (B _ (dP o));generalize e.targs[k]=U at *;refine Ac 5 fun g7 bb=>?_;simp only[go_sem,o,a,okR];refine a0 (Al (Ae (aC (Aa fun _ aD=>Ai (Aa fun _ a1=>AF 14 fun _ _ _ _ n a8=>Av 9 n ?_)))));simp only[go_sem,hgt,a];cases J:BR c.p c.env U with
     | some j =>
      rw[J] at I;rw[D,I] at b;refine Aw n (ab _ _) ?_;refine Ap 4 n ?_;simp only[go_sem,J,chkD];refine Ad 1 n ?_;simp only[go_sem];refine a8 (a1 (Aa fun _ aE=>Ac 1 fun ar b6=>?_));simp only[go_sem];refine aE (Al (Aa fun _ aF=>Am fun _ _ _ _ R aX=>Af 1 R ?_));simp only[go_sem];refine Ak R (BD _ _ _) ?_;refine Ad 4 R ?_;simp only[go_sem,trD,noR,badR,a];refine aX (aF (Ah ?_));rw[b];refine Ag ?_;simp only[go_sem,trD,noR,badR,a];exact Co.refl _
     | none =>
      rw[J] at I;refine Aw n (ab _ _) ?_;refine Ap 4 n ?_;simp only[go_sem,J,chkD];refine Ad 1 n ?_;simp only[go_sem];refine a8 (a1 (Aa fun _ aG=>Ac 1 fun ar b6=>?_));simp only[go_sem];refine aG (Aj (Ae (aD (Ac 3 fun _ _=>?_))));simp only[go_sem,okR];try simp (disch:=omega) only[Au]
      refine ⟨_,?_,k + 1,o,rfl,D.trans I,Ao ?_⟩
      ·omega
      simp only[go_sem,a,a.symm];all_goals first|trivial|omega
    ·have:k=e.targs.length:=by omega
     subst this;rw[eY,Dz] at D;rw[D] at b;have a9:=JX c.p hc.1 c.env hc.2.1.1 hc.2.1.2 s.formals q2 q3 e.targs B (by omega);have F:=@KU c.p c.env s.formals e.targs s.formals e.targs 0;change ∀ i,Hs c.p c.env s.formals e.targs=some i→_ at F;refine Ac 5 fun g7 bb=>?_;simp only[go_sem,o,a,okR];refine a0 (Aj (Aq (aA (Aa fun _ a2=>Am fun _ _ _ _ y a6=>Af 8 y ?_))));simp only[go_sem,a,a.symm];cases v:Hs c.p c.env s.formals e.targs with
     | some i =>
      rw[v] at b;obtain ⟨_,_,N⟩:=F i v;have N:i < e.targs.length:=by omega
      have be:=getM (f:=AC) N;have bd:e.targs.getD i BV=e.targs[i]:=by rw[fl,dO N]; rfl
      simp only[bd] at b;generalize e.targs[i]=U at *;refine Ak y (a9 _ _) ?_;refine Ad 1 y ?_;simp only[go_sem,v,optI];refine a6 (a2 (Aa fun _ _=>Aa fun _ aI=>Ac 2 fun au b7=>?_));simp only[go_sem];refine aI (Al (Aa fun _ aJ=>Am fun _ _ _ _ T aY=>Af 6 T ?_));simp only[go_sem,be,a];refine Ak T (BD _ _ _) ?_;refine Ad 4 T ?_;simp only[go_sem,trD,noR,badR,a];refine aY (aJ (Ah ?_));rw[b];refine Ag ?_;simp only[go_sem,trD,noR,badR,a];exact Co.refl _
     | none =>
      rw[v] at b;simp only[ei] at b;have h1:((0:Int)≤-1)=False:=eq_false (by decide);refine Ak y (a9 _ _) ?_;refine Ad 1 y ?_;simp only[go_sem,v,optI];refine a6 (a2 (Aa fun _ aK=>Aa fun _ aL=>Ac 2 fun au b7=>?_));simp only[go_sem,h1];refine aL (Aj (Ae (aK (Aa fun _ aM=>Aa fun _ a3=>?_))));by_cases af:rest.length=s.params.length
      ·rw[if_neg (by simp[af])] at b;have O:(e.kids.length:Int)=(s.params.length:Int) + 1:=by omega
       refine Ac 8 fun av b8=>?_;simp only[go_sem,O,a,a.symm];try simp (disch:=omega) only[Au]
       refine a3 (Aj (Ae (aM (Aa fun _ aN=>?_))));have bg:=BA s.formals q2;have bf:=NZ c hc rest (by omega) hT hx s.params q5 (by omega) (s.formals.map (·.name)) e.targs (by rw[ei]; omega) B;have bi:=BB (s.formals.map (·.name)) e.targs (by rw[ei]; omega) B s.result q6;have bk:smTy (AD (s.formals.map (·.name)) e.targs s.result):=Bp B _ q6;have aj:=aa9 e.kids 1;rw[b4] at aj;have bm:(e.kids.map AK).take e.kids.length=e.kids.map AK:=fO (by rw[ei]; exact ec _)
       generalize E4 c (rest.map (kn c)) (s.params.map fun q=>AD (s.formals.map (·.name)) e.targs q.type)=KR at *;generalize br:AD (s.formals.map (·.name)) e.targs s.result=RT at *;have b5:=LC RT KR bk;refine Am fun _ _ _ _ W b0=>Af 2 W ?_;simp only[go_sem,a.symm];refine Ak W (bg _ _) ?_;refine Ad 1 W ?_;simp only[go_sem];refine b0 (aN (Aa fun _ aO=>?_));have ha1:((0:Int)≤1)=True:=eq_true (by decide);have ha2:((1:Int)≤(e.kids.length:Int))=True:=eq_true (by omega);refine AF 11 fun Y ad _ _ H b1=>Av 9 H ?_;simp only[go_sem,bm,aj,ha1,ha2,Yg,Int.toNat_one,Int.le_refl,a,a.symm]
       refine Aw H (bf _ _) ?_;refine Ap 1 H ?_;simp only[go_sem];refine Ad 1 H ?_;simp only[go_sem];refine b1 (aO (Aa fun _ aP=>?_));have G:Y≠h:=Ar ad 3 0 (by simp[go_sem]);have ai:Y≠C:=Ar ad 10 0 (by simp[go_sem,a.symm]);refine AF 10 fun _ _ _ _ r b2=>Av 5 r ?_;simp only[go_sem,a,a.symm,G,ai];refine Aw r (bi _ _) ?_;refine Av 1 r ?_;simp only[go_sem,G.symm,ai.symm];refine Aw r (b5 _ _) ?_;refine Ap 2 r ?_;simp only[go_sem,trD,trD];refine Ad 2 r ?_;simp only[go_sem,a,G];refine b2 (aP (Ah ?_));rw[b];refine Ag ?_;simp only[go_sem,trD,a,G];exact Co.refl _
      ·rw[if_pos af] at b;have O:¬ (e.kids.length:Int)=(s.params.length:Int) + 1:=by omega
       refine Ac 8 fun av b8=>?_;simp only[go_sem,a,a.symm];try simp (disch:=omega) only[Au]
       try simp only[go_sem,O]
       try simp (disch:=omega) only[Au,Ba,dZ,ed]
       refine a3 (Al (Aa fun _ aQ=>Am fun _ _ _ _ V aZ=>Af 2 V ?_));simp only[go_sem,a];refine Ak V (BD _ _ _) ?_;refine Ad 4 V ?_;simp only[go_sem,trD,noR,badR,a];refine aZ (aQ (Ah ?_));rw[b];refine Ag ?_;simp only[go_sem,trD,noR,badR,a];exact Co.refl _
  ·have P:¬ (s.formals.length:Int)=(e.targs.length:Int):=by omega
   rw[if_pos hl] at b;refine AE fun Z ae ak X A u=>Ap 14 A ?_;simp only[go_sem,h0,L,AH,P];refine u (a5 (Al (Aa fun _ aR=>Am fun g4 b9 bo ap l K=>Af 2 l ?_)));simp only[go_sem];refine Ak l (BD _ _ _) ?_;refine Ad 4 l ?_;simp only[go_sem,trD,noR,badR];refine K (aR (Ah ?_));rw[b];refine Ag ?_;simp only[go_sem,trD,noR,badR];exact Co.refl _
end Go.Proofs.T
namespace Go.Ab
open Go Go.RowKit
section
variable {E:Ctx} {N:Nat}
def PU (f:D→D):D→D
 | .agg cs=>.agg (cs.map f)
 | d=>f d
def Ob.ren (f:D→D):Ob→Ob
 | .box t cs=>.box t (cs.map f)
 | .arr t k rows=>.arr t k (rows.map (PU f))
 | o=>o
structure Rens (g d:Nat) (ν:Nat→Option (Nm × Ob)) (f:D→D):Prop where
 own:∀ m l,f (.own m l)=.own m l∨∃ j o,ν j=some (m,o)∧f (.own m l)=.own ⟨g,d,j⟩ l
 other:∀ x,(∀ m l,x≠.own m l)→f x=x
theorem Rens.cells {g d:Nat} {ν:Nat→Option (Nm × Ob)} {f:D→D} (hf:Rens g d ν f) (r:D):(PU f r).cells=r.cells.map f:=by
 cases r with
 | agg a=>rfl
 | own m l =>
  rcases hf.own m l with h | ⟨j,o,_,h⟩ <;> simp[PU,D.cells,h]
 | _=>simp[PU,D.cells,hf.other]
end
end Go.Ab
