/- A part of the proof: ZAP. -/
import Derived.Test.YtnkpcgpmgkaakaaGreatZAO
namespace Go.Proofs.T
open Go Go.Ab Go.RowKit
theorem XY:∀ l:List Sig,BO 7 (l.map AH):=fun l=>Du 7 AH l fun _=>⟨rfl,rfl⟩
theorem Sb (l:List Sig) (hl:l.length≤1000000) (g d:Nat):ACalls E 99 [slSi l] [] g d (.own ⟨g,d,1⟩ l.length) [(⟨g,d,1⟩,.arr 46 7 (l.map AH))]:=by
 cases l with
 | nil =>
  refine Ax 8 Tryz.call99 Tryz.func99 ?_;simp only[go_sem];refine Aa fun k e=>Ac 1 fun q u=>?_;simp only[go_sem];refine e (Aa fun m f=>Aa fun n h=>Ac 2 fun r v=>?_);simp only[go_sem];refine h ?_;refine aal rfl ?_ ?_
  ·refine Aa fun o i=>Ac 1 fun _ _=>?_;simp only[go_sem];refine i (Ah ?_);refine Vq 2 46 7 rfl fun s _=>?_;refine DK [⟨s,0,0⟩] rfl ?_;simp only[go_sem];exact Co.refl _
  ·refine Ae (f (Aa fun _ t=>Am fun c w x p b j=>Af 2 b ?_));simp only[go_sem];refine AG b rfl rfl rfl rfl rfl es43 sz46 by46 ze46 rfl (by decide) ?_;simp only[go_sem];first | refine ⟨⟨by omega,by omega⟩,?_⟩ | skip
   refine Ad 1 b ?_;simp only[go_sem];refine j (t (Ah ?_));refine DK [⟨c,7,0⟩] rfl ?_;simp only[go_sem];exact Co.refl _
 | cons a l =>
  simp only[eB] at hl;refine Ax 8 Tryz.call99 Tryz.func99 ?_;simp only[go_sem];refine Aa fun k e=>Ac 1 fun q u=>?_;simp only[go_sem];refine e (Aa fun m f=>Aa fun n h=>Ac 2 fun r v=>?_);simp only[go_sem];refine h (Aj (Ae (f (Aa fun o i=>Am fun c w x p b j=>Af 2 b ?_))));simp only[go_sem];refine AG b rfl rfl rfl rfl rfl es43 sz46 by46 ze46 rfl (by decide) ?_;simp only[go_sem,XY];first | refine ⟨⟨by omega,by omega⟩,?_⟩ | skip
  refine Ad 1 b ?_;simp only[go_sem];refine j (i (Ah ?_));refine DK [⟨c,7,0⟩] rfl ?_;simp only[go_sem];exact Co.refl _
def ndF (b:Bool) (s:Str) (n:Nat):List Nd:=(List.range n).map fun i:Nat=>⟨b,s,(i:Int)⟩
theorem ZC (b:Bool) (s:Str) (n:Nat):ndF b s (n + 1)=ndF b s n++[⟨b,s,(n:Int)⟩]:=by unfold ndF; rw[List.range_succ,eC]; rfl
theorem Ip (b:Bool) (s:Str) (n:Nat):(ndF b s n).length=n:=by simp[ndF]
theorem aaU (b:Bool) (s:Str) (n:Nat) (x:Nd):x∈ndF b s n↔∃ i,i < n∧x=⟨b,s,(i:Int)⟩:=by
 unfold ndF;simp only[eh,fE];constructor
 ·rintro ⟨i,h,rfl⟩;exact ⟨i,h,rfl⟩
 ·rintro ⟨i,h,rfl⟩;exact ⟨i,h,rfl⟩
def siN (s:Sig):List Nd:=ndF true s.name s.formals.length
def ndD (d:Dec):List Nd:=ndF false d.name d.formals.length++(d.sigs++[d.sig]).flatMap siN
def ndP (p:Prg):List Nd:=p.decls.flatMap ndD
def ndS (q:Nat) (R:List Nd) (τ:Sto):Prop:=∃ a i,a≠q∧τ=[(⟨q,3,0⟩,.box 96 [.own ⟨a,i,0⟩ R.length]),(⟨a,i,0⟩,.arr 139 3 (R.map AX))]
set_option maxRecDepth 100000 in
theorem Mr (b:Bool) (s:Str) (l:List Formal) (q:Nat) (R:List Nd) (hl:R.length + l.length≤1000000) :
  IC E 98 [dB b,encS s,slFm l,.ptr ⟨q,3,0⟩ 0] (ndS q R) (ndS q (R++ndF b s l.length)) (.tup []):=by
 refine Ef (fn:=Tryz.f98) (N:=21) Tryz.call98 Tryz.func98 rfl rfl (by simp) (fun _ _ _ y=>?_);simp only[go_sem];refine Aa fun _ p=>?_;obtain ⟨a,i,c,rfl⟩:=y;refine Ac 3 fun _ _=>?_;simp only[go_sem];refine p (Ai ?_);refine Ay (fun m n=>∃ k a i,k≤l.length∧m=l.length - k∧a≠q∧LeT { env:=[(0,dB b),(1,encS s),(3,.ptr ⟨q,3,0⟩ 0),(8,slFm l),(9,dN l.length),(10,dN k)],σ:=[(⟨q,3,0⟩,.box 96 [.own ⟨a,i,0⟩ (R++ndF b s k).length]),(⟨a,i,0⟩,.arr 139 3 ((R++ndF b s k).map AX))] } n) l.length ?_ ?_
 ·refine ⟨0,a,i,dX _,rfl,c,SZ (by simp[ndF]) ?_⟩;simp only[go_sem];all_goals first|trivial|omega
 ·rintro m n ⟨k,a,i,z,rfl,c,j⟩;refine Da j ?_;clear j;have A:=Ip b s k;refine Aa fun _ h=>?_;by_cases e:k < l.length
  ·refine Ac 1 fun o w=>?_;simp only[go_sem,e];refine h (Aa fun _ r=>Al (Ae (r (Aa fun _ t=>Ai (Aa fun _ u=>Ac 2 fun _ _=>?_)))));simp only[go_sem];refine u (Am fun g x _ _ f v=>Af 6 f ?_);simp only[go_sem,c];refine AG f rfl rfl rfl rfl rfl es96 sz139 by139 ze139 rfl (by decide) ?_;simp only[go_sem,c.symm];first | refine ⟨⟨by omega,by omega⟩,?_⟩ | skip
   have d:g≠q:=Ar x 3 0 (by simp[go_sem]);refine Ad 1 f ?_;simp only[go_sem,d];refine v (t (Ac 2 fun _ _=>?_));simp only[go_sem];try simp (disch:=omega) only[Au]
   refine ⟨_,?_,k + 1,g,19,e,rfl,d,⟨CD ?_,Ka ?_⟩⟩
   ·omega
   ·simp only[go_sem];all_goals first|trivial|omega
   ·simp only[go_sem,ZC,← eE,d,d.symm];all_goals first|trivial|omega
  ·have:k=l.length:=by omega
   subst this;refine Ac 1 fun o w=>?_;simp only[go_sem,e];refine h (Aa fun _ _=>Aj (Aq ?_));refine Gj (own:=[]) rfl rfl (by simp[go_sem]) (⟨a,i,c,by rw[dQ,eC]⟩) ?_;simp only[go_sem];exact Co.refl _
theorem K0 {α β:Type} (f:α→List β) {l:List α} {k:Nat} (h:k < l.length):(l.take (k + 1)).flatMap f=(l.take k).flatMap f++f l[k]:=by
 rw[ep,dO h,gy];simp
theorem ZD {α β:Type} (f:α→List β) (l:List α) (k:Nat):((l.take k).flatMap f).length≤(l.flatMap f).length:=by
 have:=congrArg (fun l=>(l.flatMap f).length) (fC k l);simp only[gy,dQ] at this;omega
theorem Rr {α β:Type} (f:α→List β) {l:List α} {k:Nat} (h:k < l.length):((l.take k).flatMap f).length + (f l[k]).length≤(l.flatMap f).length:=by
 have b:=K0 f h;have a:=ZD f l (k + 1);rw[b,dQ] at a;exact a
noncomputable def Bv (p:Prg):List Nd:=cpU (srt ltNd (ndP p)) (srt ltNd (ndP p)).length
abbrev bxN (a i:Nat) (q:Nat) (R:List Nd):Sto:=[(⟨q,3,0⟩,.box 96 [.own ⟨a,i,0⟩ R.length]),(⟨a,i,0⟩,.arr 139 3 (R.map AX))]
set_option maxRecDepth 100000 in
theorem Tt (p:Prg) (hp:smPr p) (hN:(ndP p).length≤900000) (g d:Nat):ACalls E 55 [AZ p] [] g d (slNd (Bv p)) []:=by
 obtain ⟨⟨k1,k2⟩,k3⟩:=hp;refine Ax 47 Tryz.call55 Tryz.func55 ?_;simp only[go_sem];refine Aa fun _ ag=>Ac 2 fun g0 _=>?_;simp only[go_sem];refine ag (Aa fun _ ao=>Ac 1 fun c _=>?_);simp only[go_sem];refine ao (Aa fun _ ap=>?_);refine Di ⟨c,3,0⟩ 0 139 3 ?_;simp only[go_sem];intro B a4;have H:B≠c:=Ar a4 3 0 (by simp[go_sem]);have a5:B≠g0:=Ar a4 1 0 (by simp[go_sem]);refine Ac 2 fun _ _=>?_;simp only[go_sem];refine ap (Aa fun _ aq=>Aa fun _ ar=>Ac 4 fun _ _=>?_);simp only[go_sem,a5];refine ar (Ai ?_)
 refine Ay (fun m s=>∃ k a i,k≤p.decls.length∧m=p.decls.length - k∧a≠c∧LeT { env:=[(3,.ptr ⟨c,3,0⟩ 0),(4,.func (.func 98) [] [.ptr ⟨c,3,0⟩ 0]),(11,slDe p.decls),(12,dN p.decls.length),(13,dN k)],σ:=bxN a i c ((p.decls.take k).flatMap ndD) } s) p.decls.length ?_ ?_
 ·refine ⟨0,B,0,dX _,rfl,H,⟨CD ?_,Ka ?_⟩⟩
  ·simp only[go_sem];all_goals first|trivial|omega
  ·simp only[go_sem,fZ,H,H.symm,a5.symm];all_goals first|trivial|omega
 ·rintro m s ⟨k,a,i,hk,rfl,l,v⟩;refine Da v ?_;clear v;refine Aa fun _ U=>?_;by_cases o:k < p.decls.length
  ·have aO:=getM (f:=Ce) o;have C:=k2 _ (dP o);have aU:=K0 ndD o;have aJ:=Rr ndD o;refine Ac 1 fun g4 aM=>?_;simp only[go_sem,o];refine U (Aa fun _ au=>Al (Ae (au (Aa fun _ av=>Ai (Aa fun _ aw=>?_)))));generalize p.decls[k]=D at *;generalize (p.decls.take k).flatMap ndD=R at *;have aC : R.length + (ndD D).length≤900000:=ef aJ hN;have hD:(ndD D).length=D.formals.length + ((D.sigs++[D.sig]).flatMap siN).length:=by unfold ndD; rw[dQ,Ip]
   have aK:=C.2.2.2.1.1;refine Ac 4 fun q a0=>?_;simp only[go_sem,aO];refine aw (Aa fun _ ah=>?_);have a6:q≠a:=Ar a0 i 0 (by simp[go_sem,l.symm]);have r:q≠c:=Ar a0 3 0 (by simp[go_sem]);refine Am fun _ _ _ _ M aA=>Af 5 M ?_;simp only[go_sem,bxN,a6.symm,r.symm];refine EX (own:=[(⟨q,6,0⟩,.box 48 (deC D))]) (τ:=bxN a i c R) M rfl rfl rfl (Mr false D.name D.formals c R (by omega)) (CoL.refl _) rfl (fun p hp=>?_) ⟨a,i,l,rfl⟩ (fun _ ae V=>?_)
   ·rw[eg.1 hp];simp only[go_sem,a6.symm,r.symm]
   obtain ⟨x,z,ha2,rfl⟩:=ae;have Y:=V _ dY;clear V;have N:¬ (x=q∧z=6):=fun e=>by
    obtain ⟨rfl,rfl⟩:=e;simp[Ab.get,ha2.symm] at Y
   have aa:¬ (q=x∧6=z):=fun e=>N ⟨e.1.symm,e.2.symm⟩;clear Y;refine Ad 0 M ?_;simp only[go_sem];refine aA (ah (Aa fun _ ai=>?_));refine awp_anyT 9 [0,1,3,0,8,24,63,127,0] (by kernel_rfl) (by kernel_rfl) (by kernel_rfl) rfl (fun y G _ _ w aB=>?_);refine qrunT_eval 2 w rfl ?_;simp only[go_sem,r.symm,N];refine qrunT_pure w rfl rfl rfl (Sb D.sigs aK _ _) (CoL.refl _) (by simp[nwOk]) ?_;refine qrunT_eval 3 w rfl ?_;simp only[go_sem,r.symm,N];refine qrunT_app w rfl rfl rfl rfl rfl es43 sz46 by46 ze46 rfl (by decide) rfl rfl ?_;simp only[go_sem]
   first | refine ⟨⟨by omega,by omega⟩,?_⟩ | skip
   have aR:y≠c:=Ar G 3 0 (by simp[go_sem,r]);have aS:y≠q:=Ar G 6 0 (by simp[go_sem]);have aQ:y≠x:=Ar G z 0 (by simp[go_sem,aa,ha2.symm]);refine qrunT_last 2 w rfl ?_;simp only[go_sem];refine IA ?_;refine aB _ (ai (Ai ?_));refine Ch ⟨y,29,0⟩ ?_;simp only[go_sem,aR.symm,aS.symm,aQ.symm];have hS:(D.sigs.map AH++[.agg (siC D.sig)])=(D.sigs++[D.sig]).map AH:=by simp[AH]
   have aH:∀ s∈D.sigs++[D.sig],smSi s:=fun s hs=>by
    rcases eu.1 hs with h | h
    ·exact C.2.2.2.1.2 s h
    ·rw[eg.1 h]; exact C.2.2.2.2.2.2.1
   have aI:(D.sigs++[D.sig]).length=D.sigs.length + 1:=by simp
   generalize aG:D.sigs++[D.sig]=S at *;have b0:=Ip false D.name D.formals.length;have a8:ndD D=ndF false D.name D.formals.length++S.flatMap siN:=by unfold ndD; rw[aG]
   generalize ndF false D.name D.formals.length=F at *;refine Ay (fun m s=>∃ j b i,j≤S.length∧m=S.length - j∧b≠c∧LeT { env:=[(3,.ptr ⟨c,3,0⟩ 0),(4,.func (.func 98) [] [.ptr ⟨c,3,0⟩ 0]),(11,slDe p.decls),(12,dN p.decls.length),(13,dN k),(29,slSi S),(30,dN S.length),(31,dN j)],σ:=bxN b i c (R++F++(S.take j).flatMap siN) } s) S.length ?_ ?_
   ·refine ⟨0,x,z,dX _,rfl,ha2,⟨CD ?_,Ka ?_⟩⟩
    ·simp only[go_sem,← hS,aI];all_goals first|trivial|omega
    ·simp only[go_sem,fZ,r,aa,ha2,ha2.symm];all_goals first|trivial|omega
   ·rintro m s ⟨j,b,i,hj,rfl,u,v⟩;refine Da v ?_;clear v;refine Aa fun _ P=>?_;by_cases n:j < S.length
    ·have aP:=getM (f:=AH) n;have b2:=Rr siN n;have aT:=K0 siN n;have b5:=aH _ (dP n);refine Ac 1 fun g8 aN=>?_;simp only[go_sem,n];refine P (Aa fun _ aj=>Al (Ae (aj (Aa fun _ ak=>Ai (Aa fun _ al=>?_)))));generalize S[j]=X at *;generalize (S.take j).flatMap siN=T at *;have b1:(siN X).length=X.formals.length:=Ip _ _ _;rw[a8,dQ] at aC;have aE:(R++F++T).length=R.length + F.length + T.length:=by simp only[dQ]
     generalize hQ:R++F++T=Q at aE ⊢;refine Ac 4 fun t a1=>?_;simp only[go_sem,aP];refine al ?_;have a7:t≠b:=Ar a1 i 0 (by simp[go_sem,u.symm]);have I:t≠c:=Ar a1 3 0 (by simp[go_sem]);refine Am fun _ _ _ _ J ax=>Af 5 J ?_;simp only[go_sem,bxN,a7.symm,I.symm];refine EX (own:=[(⟨t,8,0⟩,.box 46 (siC X))]) (τ:=bxN b i c Q) J rfl rfl rfl (Mr true X.name X.formals c Q (by omega)) (CoL.refl _) rfl (fun p hp=>?_) ⟨b,i,u,rfl⟩ (fun _ af W=>?_)
     ·rw[eg.1 hp];simp only[go_sem,a7.symm,I.symm]
     obtain ⟨A,O,ha3,rfl⟩:=af;have Z:=W _ dY;clear W;have aW:¬ (A=t∧O=8):=fun e=>by
      obtain ⟨rfl,rfl⟩:=e;simp[Ab.get,ha3.symm] at Z
     have aX:¬ (t=A∧8=O):=fun e=>aW ⟨e.1.symm,e.2.symm⟩;clear Z;refine Ad 0 J ?_;simp only[go_sem];refine ax (ak (Ac 2 fun _ _=>?_));simp only[go_sem];try simp (disch:=omega) only[Au]
     refine ⟨_,?_,j + 1,A,O,n,rfl,ha3,⟨CD ?_,Ka ?_⟩⟩
     ·omega
     ·simp only[go_sem];all_goals first|trivial|omega
     ·simp only[go_sem,aT,← eE,hQ,show ndF true X.name X.formals.length=siN X from rfl,I,aX,ha3,ha3.symm];all_goals first|trivial|omega
    ·have:j=S.length:=by omega
     subst this;rw[eo];refine Ac 1 fun g8 aN=>?_;simp only[go_sem,n];refine P (Aa fun _ _=>Aj (Aq (av (Ac 2 fun _ _=>?_))));simp only[go_sem];try simp (disch:=omega) only[Au]
     refine ⟨_,?_,k + 1,b,i,o,rfl,u,⟨CD ?_,Ka ?_⟩⟩
     ·omega
     ·simp only[go_sem];all_goals first|trivial|omega
     ·simp only[go_sem,aU,a8,← eE,u,u.symm];all_goals first|trivial|omega
  ·have:k=p.decls.length:=by omega
   subst this;have aL:(p.decls.take p.decls.length).flatMap ndD=ndP p:=by rw[eo]; rfl
   rw[aL];have a9:=JV ltNd (ndP p);refine Ac 1 fun g4 aM=>?_;simp only[go_sem,o];refine U (Aa fun _ _=>Aj (Aq (aq (Aa fun _ am=>Am fun _ _ _ _ K ay=>Af 1 K ?_))));simp only[go_sem,bxN,l];refine Zm K rfl rfl rfl (Ts (ndP p) (by omega) ⟨a,i,0⟩ _ _) (CoL.refl _) (by simp[go_sem,l.symm]) ?_;refine Ad 0 K ?_;simp only[go_sem,l.symm];refine ay (am (Aa fun _ an=>Am fun _ _ _ _ L az=>Af 1 L ?_));simp only[go_sem,l];refine Dx L rfl rfl rfl (a9 ▸ Sa (srt ltNd (ndP p)) (by omega) ⟨a,i,0⟩ _ _) (CoL.refl _) (by simp[go_sem]) ?_;refine Ad 1 L ?_;simp only[go_sem,l.symm]
   refine az (an (Ah (Ag ?_)));simp only[go_sem];exact Co.of_eq (by unfold Bv; rw[a9])
structure Ed where
 frm:Nd
 to:Nd
 ins:Bool
instance:Inhabited Ed:=⟨⟨default,default,false⟩⟩
theorem Ed.eq_iff {a b:Ed}:a=b↔a.frm=b.frm∧a.to=b.to∧a.ins=b.ins:=by
 cases a;cases b;simp
def edC (e:Ed):List D:=[dB e.frm.method,encS e.frm.name,dI e.frm.idx,dB e.to.method,encS e.to.name,dI e.to.idx,dB e.ins]
def FI (e:Ed):D:=.agg (edC e)
theorem UP (e:Ed):(FI e).cells=edC e:=rfl
def slEd (l:List Ed):D:=.sl false (l.map FI)
attribute [go_sem] UP FI edC slEd
def cfEd (x y:Ed):Int:=or3 (cfNd x.frm y.frm) (cfNd x.to y.to) (cmpI (ordB x.ins) (ordB y.ins))
theorem HH:Good cfEd :=
 (Eu.pull fun x:Ed=>x.frm).lex ((Eu.pull fun x:Ed=>x.to).lex (Ww.pull fun x:Ed=>ordB x.ins))
theorem Jn {x y:Ed}:cfEd x y=0↔x=y:=by
 constructor
 ·intro h;unfold cfEd or3 at h;split at h
  ·rename_i a;split at h
   ·rename_i b;exact Ed.eq_iff.2 ⟨HG.1 a,HG.1 b,Tr (Jm.1 h)⟩
   ·contradiction
  ·contradiction
 ·rintro rfl;exact HH.zero _
def ltEd:Ed→Ed→Bool:=Go.Proofs.ltOf cfEd
def SE (l:List Ed):Prop:=l.Pairwise fun a b=>cfEd a b < 0
def putE:List Ed→Ed→List Ed
 | [],e=>[e]
 | x :: r,e=>if cfEd e x=0 then x :: r else if cfEd e x < 0 then e :: x :: r else x :: putE r e
theorem Oz (e x:Ed):∀ l,x∈putE l e↔x=e∨x∈l
 | []=>by simp[putE]
 | y :: r=>by
  have ih:=Oz e x r;unfold putE;split
  ·rename_i h;have:=Jn.1 h;subst this;constructor
   ·exact .inr
   ·rintro (rfl | h)
    ·exact dY
    ·exact h
  ·split
   ·simp
   ·simp only[eq,ih];constructor
    ·rintro (h | h | h)
     ·exact .inr (.inl h)
     ·exact .inl h
     ·exact .inr (.inr h)
    ·rintro (h | h | h)
     ·exact .inr (.inl h)
     ·exact .inl h
     ·exact .inr (.inr h)
theorem VA (e:Ed):∀ l,SE l→SE (putE l e)
 | [],_=>by simp[putE,SE]
 | y :: r,h=>by
  have ih:=VA e r (List.Pairwise.of_cons h);have hy:=(hZ.1 h).1;unfold putE;split
  ·exact h
  ·rename_i h0;split
   ·rename_i h1;refine hZ.2 ⟨fun z hz=>?_,h⟩;rcases eq.1 hz with rfl | hz
    ·exact h1
    ·have h2:=HH.trans e y z (by omega) (by have:=hy z hz; omega);have h3:=hy z hz;rcases gA h2 with h4 | h4
     ·exact h4
     ·have h5:=Jn.1 h4;subst h5;have:=HH.anti e y;omega
   ·refine hZ.2 ⟨fun z hz=>?_,ih⟩;rcases (Oz e z r).1 hz with rfl | hz
    ·have:=HH.anti y z;omega
    ·exact hy z hz
theorem Tu (e:Ed):∀ l:List Ed,(putE l e).length≤l.length + 1
 | []=>by simp[putE]
 | y :: r=>by
  have ih:=Tu e r;unfold putE;split
  ·simp
  ·split
   ·simp
   ·simp only[eB];omega
theorem PK (x:Ed):∀ (m l:List Ed),x∈m.foldl putE l↔x∈m∨x∈l
 | [],l=>by simp
 | e :: m,l=>by
  rw[fz,PK x m,Oz,eq];constructor
  ·rintro (h | h | h)
   ·exact .inl (.inr h)
   ·exact .inl (.inl h)
   ·exact .inr h
  ·rintro ((h | h) | h)
   ·exact .inr (.inl h)
   ·exact .inl h
   ·exact .inr (.inr h)
theorem Cs:∀ (m l:List Ed),SE l→SE (m.foldl putE l)
 | [],_,h=>h
 | e :: m,l,h=>by
  rw[fz];exact Cs m _ (VA e l h)
theorem BW:∀ (m l:List Ed),(m.foldl putE l).length≤l.length + m.length
 | [],l=>by simp
 | e :: m,l=>by
  have:=BW m (putE l e);have:=Tu e l;rw[fz,eB];omega
def setE (m:List Ed):List Ed:=m.foldl putE []
theorem ZE (m:List Ed) (x:Ed):x∈setE m↔x∈m:=by simp[setE,PK]
def edV (e:Ed):Value:=.agg #[.bool e.frm.method,.string e.frm.name,.int .i64 e.frm.idx,.bool e.to.method,.string e.to.name,.int .i64 e.to.idx,.bool e.ins]
def edE (l:List Ed):List (Value × D):=l.map fun e=>(edV e,.val (.bool true))
open Classical in
noncomputable def addE (l:List Ed) (e:Ed):List Ed:=if e∈l then l else l++[e]
theorem ZF {α β:Type} (f:β→α→β) (b:β) {l:List α} {k:Nat} (h:k < l.length):(l.take (k + 1)).foldl f b=f ((l.take k).foldl f b) l[k]:=by
 rw[ep,dO h,gh,eQ]
 rfl
def ksN:KS:=.one .str
attribute [go_sem] ksN
abbrev Sc:=List (Str × Nd)
def scE (s:Sc):List (Value × D):=s.map fun p=>(.string p.1,AX p.2)
open Classical in
noncomputable def Bm:Sc→Str→Option Nd
 | [],_=>none
 | p :: r,v=>if p.1=v then some p.2 else Bm r v
theorem ET:∀ (s t:Sc) (v:Str),Bm (s++t) v=match Bm s v with | some n=>some n | none=>Bm t v
 | [],_,_=>rfl
 | p :: r,t,v=>by
  have ih:=ET r t v;simp only[f8,Bm];split
  ·rfl
  ·exact ih
noncomputable def addS (s:Sc) (p:Str × Nd):Sc:=match Bm s p.1 with | some _=>s | none=>s++[p]
theorem XZ (s:Sc) (p:Str × Nd) (v:Str):Bm (addS s p) v=Bm (s++[p]) v:=by
 unfold addS;split
 ·rename_i n h;rw[ET];cases b:Bm s v with
  | some c=>rfl
  | none =>
   have a:p.1≠v:=fun e=>by rw[e,b] at h; cases h
   simp[Bm,a]
 ·rfl
theorem La:∀ (m s:Sc) (v:Str),Bm (m.foldl addS s) v=Bm (s++m) v
 | [],s,v=>by simp
 | p :: m,s,v=>by
  rw[fz,La m (addS s p) v,ET,XZ,← ET,eE]
  rfl
def scN (b:Bool) (o:Str) (ns:List Str):Sc:=ns.mapIdx fun i v=>(v,⟨b,o,(i:Int)⟩)
theorem Ff (b:Bool) (o:Str) (ns:List Str):(scN b o ns).length=ns.length:=by simp[scN]
theorem Qv (b:Bool) (o:Str) (ns:List Str) (k:Nat) (h:k < (scN b o ns).length):(scN b o ns)[k]=(ns[k]'(by rwa [Ff] at h),⟨b,o,(k:Int)⟩):=by simp[scN]
noncomputable def M0 (s:Sc) (b:Bool) (o:Str) (ns:List Str):Sc:=(scN b o ns).foldl addS s
def ksE:KS:=.agg [.boo,.str,.num .i64,.boo,.str,.num .i64,.boo]
attribute [go_sem] ksE
theorem Nd.eta (x:Nd):(⟨x.method,x.name,x.idx⟩:Nd)=x:=rfl
mutual
noncomputable def inE (sc:Sc) (to:Nd):Ty→Bool→List Ed
 | .mk n l _,ins=>(match Bm sc n with | some x=>if l.length=0 then [⟨x,to,ins⟩] else [] | none=>[])++inEs sc to l
noncomputable def inEs (sc:Sc) (to:Nd):List Ty→List Ed
 | []=>[]
 | t :: r=>inE sc to t true++inEs sc to r
end
mutual
noncomputable def visE (sc:Sc):Ty→List Ed
 | .mk n l _=>Bs sc l false n 0
noncomputable def Bs (sc:Sc):List Ty→Bool→Str→Nat→List Ed
 | [],_,_,_=>[]
 | t :: r,b,o,i=>inE sc ⟨b,o,(i:Int)⟩ t false++visE sc t++Bs sc r b o (i + 1)
end
noncomputable def hdE (sc:Sc) (to:Nd) (t:Ty) (ins:Bool):List Ed:=match Bm sc t.name with | some x=>if t.args.length=0 then [⟨x,to,ins⟩] else [] | none=>[]
theorem Mt (sc:Sc) (to:Nd):∀ l,inEs sc to l=l.flatMap fun t=>inE sc to t true
 | []=>by simp[inEs]
 | t :: r=>by simp[inEs,Mt sc to r]
theorem IV (sc:Sc) (to:Nd) (t:Ty) (ins:Bool):inE sc to t ins=hdE sc to t ins++t.args.flatMap fun t=>inE sc to t true:=by
 cases t;simp only[inE,hdE,Mt,Ty.name_mk,Ty.args_mk]
 rfl
theorem Kc (sc:Sc) (t:Ty):visE sc t=Bs sc t.args false t.name 0:=by
 cases t;simp only[visE,Ty.name_mk,Ty.args_mk]
theorem Rt (sc:Sc) (b:Bool) (o:Str) (t:Ty):∀ (l:List Ty) (i:Nat),Bs sc (l++[t]) b o i=Bs sc l b o i++(inE sc ⟨b,o,((i + l.length:Nat):Int)⟩ t false++visE sc t)
 | [],i=>by simp[Bs]
 | x :: r,i=>by
  simp only[f8,Bs,Rt sc b o t r (i + 1),eE,eB];rw[show i + 1 + r.length=i + (r.length + 1) by omega]
theorem PL (sc:Sc) (b:Bool) (o:Str) (l:List Ty) (k:Nat) (h:k < l.length):Bs sc (l.take (k + 1)) b o 0=Bs sc (l.take k) b o 0++(inE sc ⟨b,o,(k:Int)⟩ l[k] false++visE sc l[k]):=by
 rw[ep,dO h,gh,Rt,eG (ga h),eN]
theorem E3 {α β:Type} (f:α→List β) {l:List α} {k:Nat} (h:k < l.length):(l.take (k + 1)).flatMap f=(l.take k).flatMap f++f l[k]:=by
 rw[ep,dO h,gh,gy];simp
noncomputable abbrev fmS (s:Sc) (b:Bool) (o:Str) (l:List Formal):Sc:=M0 s b o (l.map (·.name))
noncomputable def siE (sc:Sc) (x:Sig):List Ed:=(x.formals.flatMap fun f=>visE sc f.bound)++(x.params.flatMap fun f=>visE sc f.type)++visE sc x.result
end Go.Proofs.T
namespace Go.Ab
open Go Go.RowKit
structure EC (E:Ctx) (f:FuncId) (args:List D) (σ:Sto) (g d:Nat) (S:D→Sto→Prop):Prop where
 call:∀ xs w,(callFunc f xs).run E.P w=.ok (.enter f xs) w
 run:∀ w0,E.A w0→∀ G w (vs:Array Value),WF w0 G w→Vs G w vs args→Objs w0 G w (get σ)→(g < G.top∧∀ j,G.ρ ⟨g,d,j⟩=none) →
  Calls E.P f vs w fun e w'=>∃ v G' r τ',e=.returned v∧S r τ'∧WF w0 G' w'∧V G' w' v r∧Objs w0 G' w' (get τ')∧Step (rsv g (some d)) G w (get σ) G' w' (get τ')
section
variable {E:Ctx} {g:Nat}
def retE (E:Ctx) (fn:Func) (g d:Nat) (S:D→Sto→Prop):Exit→St→Prop
 | .normal,st=>∃ r τ',S r τ'∧Ends E fn g d r τ' st
 | .ret,st=>∃ r τ',S r τ'∧Ends E fn g d r τ' st
 | _,_=>False
end
section
variable {E:Ctx} {N:Nat} {ops:List Oper} {g:Nat} {Q:St→Prop} {st:St} {o:Oper} {rest:List Oper} {ds:List (Option Tmp)}
end

def aad (E:Ctx) (ops:List Oper) (g:Nat) (σ0:Sto) (c:Nat) (n0:Nm) (ob0 ob1:Ob) (i:Nat) (o:Oper) (env:List (Nat × D)) (v:D) (nw:Sto):Prop :=
 (i≠c∧Sr E ops g σ0 o env v nw)∨(i=c∧nw=[]∧o.guard=none∧TOp E g o (ev E env) (single n0 ob0) v (single n0 ob1))
inductive WTrace (E:Ctx) (ops:List Oper) (g:Nat) (σ0:Sto) (c:Nat) (n0:Nm) (ob0 ob1:Ob):Nat→List Oper→List (Nat × D)→List (D × Sto)→List (Nat × D)→Prop
 | nil {i:Nat} {env:List (Nat × D)}:WTrace E ops g σ0 c n0 ob0 ob1 i [] env [] env
 | cons {i:Nat} {o:Oper} {r:List Oper} {env env' : List (Nat × D)} {v:D} {nw:Sto} {tr:List (D × Sto)}:aad E ops g σ0 c n0 ob0 ob1 i o env v nw→WTrace E ops g σ0 c n0 ob0 ob1 (i + 1) r (putE env o.dst v) tr env'→WTrace E ops g σ0 c n0 ob0 ob1 i (o :: r) env ((v,nw) :: tr) env'
def WRun (E:Ctx) (ops:List Oper) (g:Nat) (σ0:Sto) (c:Nat) (n0:Nm) (ob0 ob1:Ob) (i:Nat) (K:St→Prop) (l:List Oper) (st:St):Prop :=
 ∃ tr env',WTrace E ops g σ0 c n0 ob0 ob1 i l st.env tr env'∧K ⟨env',accN tr st.σ⟩
section
variable {E:Ctx} {N:Nat} {l:List Oper} {g:Nat} {st:St} {ops:List Oper} {σ0:Sto} {c i0:Nat} {n0:Nm} {ob0 ob1:Ob}
theorem WTrace.length {l:List Oper} {env env' : List (Nat × D)} {tr:List (D × Sto)} (h:WTrace E ops g σ0 c n0 ob0 ob1 i0 l env tr env'):tr.length=l.length:=by
 induction h with
 | nil=>rfl
 | cons _ _ ih=>simp[ih]
theorem WTrace.split {l:List Oper} {env env' : List (Nat × D)} {tr:List (D × Sto)} (h:WTrace E ops g σ0 c n0 ob0 ob1 i0 l env tr env'):∀ (i:Nat) o,l[i]?=some o→∃ envi v nw,WTrace E ops g σ0 c n0 ob0 ob1 i0 (l.take i) env (tr.take i) envi∧tr[i]?=some (v,nw)∧aad E ops g σ0 c n0 ob0 ob1 (i0 + i) o envi v nw:=by
 induction h with
 | nil=>intro i o h; simp at h
 | cons d _ ih =>
  intro i o b;cases i with
  | zero=>simp only[ey,Option.some.injEq] at b; subst b; exact ⟨_,_,_,.nil,rfl,d⟩
  | succ i =>
   obtain ⟨envi,v,nw,e,f,j⟩:=ih i o (by simpa using b);refine ⟨envi,v,nw,.cons d e,f,?_⟩;rw[show ∀ a:Nat,a + (i + 1)=a + 1 + i by omega];exact j
theorem WTrace.env {l:List Oper} {env env' : List (Nat × D)} {tr:List (D × Sto)} (h:WTrace E ops g σ0 c n0 ob0 ob1 i0 l env tr env') (t:Nat) :
  (∃ (j:Nat) (o:Oper) (v:D) (nw:Sto),l[j]?=some o∧o.dst=some t∧tr[j]?=some (v,nw)∧lk env' t=some v)∨((∀ (j:Nat) o,l[j]?=some o→o.dst≠some t)∧lk env' t=lk env t):=by
 induction h with
 | nil=>exact .inr ⟨fun j o h=>by simp at h,rfl⟩
 | cons w _ ih =>
  rename_i i o r env env' v nw tr _;rcases ih with ⟨j,m,u,s,f,a,n,p⟩ | ⟨f,a⟩
  ·exact .inl ⟨j + 1,m,u,s,by simpa using f,a,by simpa using n,p⟩
  ·by_cases b:o.dst=some t
   ·refine .inl ⟨0,o,v,nw,rfl,b,rfl,?_⟩;rw[a,b];simp[putE,lk]
   ·refine .inr ⟨fun j m k=>?_,?_⟩
    ·cases j with
     | zero=>simp only[ey,Option.some.injEq] at k; subst k; exact b
     | succ j=>exact f j m (by simpa using k)
    ·rw[a];cases q:o.dst with
     | none=>rfl
     | some d =>
      simp only[putE,lk];rw[if_neg (fun e=>b (by rw[q,e]))]
def Inv3 (w0:World) (E:Ctx) (N:Nat) (l:List Oper) (g:Nat) (st:St) (tr:List (D × Sto)) (G1:Gh) (w1:World) (c:Nat) (n0:Nm) (ob0 ob1:Ob) (L:Nat→Bool) (G:Gh) (w:World) (a:Act):Prop :=
 Inv2 w0 E N l g st tr G1 w1 L (single n0 ob0) (single n0 (if L c=true then ob1 else ob0)) G w a
variable {K:St→Prop} {ds:List (Option Tmp)} {i:Nat} {st' : St}
end
end Go.Ab
namespace Go.Proofs.T
open Go Go.Ab Go.RowKit
noncomputable def exE (sc:Sc) (e:Ex):List Ed:=visE sc e.type++if e.kind=2 then Bs sc e.targs true e.name 0 else []
noncomputable def dsE (d:Dec):List Ed :=
 (d.formals.flatMap fun f=>visE (fmS [] false d.name d.formals) f.bound)++(d.fields.flatMap fun f=>visE (fmS [] false d.name d.formals) f.type) ++
  d.sigs.flatMap fun x=>siE (fmS (fmS [] false d.name d.formals) true x.name x.formals) x
noncomputable def dmS (d:Dec):Sc:=fmS (M0 [] false d.name d.vars) true d.sig.name d.sig.formals
noncomputable def dmE (d:Dec):List Ed:=siE (dmS d) d.sig++(AB d.body).flatMap (exE (dmS d))
noncomputable def deE (d:Dec):List Ed:=if d.kind=3 then dmE d else dsE d
theorem aaV:∀ e:Ex,smEx e→∀ x∈AB e,smEx x:=by
 refine Ex.ind fun e ih b x a=>?_;rw[BC] at a;rcases eq.1 a with rfl | a
 ·exact b
 ·rw[BF] at a;obtain ⟨y,c,a⟩:=ez.1 a;exact ih y c (((Bd e).1 b).2.2.2.2 y c) x a
theorem nodup_le:∀ (n:Nat) (l:List Nat),l.Nodup→(∀ x∈l,x < n)→l.length≤n
 | 0,[],_,_=>ec _
 | 0,x :: l,_,h=>absurd (h x dY) (Nat.not_lt_zero _)
 | n + 1,l,hn,h=>by
  by_cases hm:n∈l
  ·have h1:=nodup_le n (l.erase n) (hn.erase n) fun x hx=>by
    obtain ⟨h1,h2⟩:=(List.Nodup.mem_erase_iff hn).1 hx;have:=h x h2;omega
   have:=List.length_erase_of_mem hm;have:=List.length_pos_of_mem hm;omega
  ·have:=nodup_le n l hn fun x hx=>by
    have:=h x hx;have:x≠n:=fun e=>hm (e ▸ hx);omega
   omega
def ac4 (l:List Ed) (i:List Nat) (x:D) (j:List Nat):Prop:=∃ n e,l[n]?=some e∧n∉i∧x=FI e∧j=i++[n]
def finK (l:List Ed) (i:List Nat):Prop:=∀ n,n < l.length→n∈i
def okK (l:List Ed) (i:List Nat):Prop:=i.Nodup∧∀ n∈i,n < l.length
def edsK (l:List Ed) (i:List Nat):List Ed:=i.map fun n=>l.getD n default
theorem abC {α β:Type} (f:α→List β) (l:List α) (k:Nat):((l.take k).flatMap f).length≤(l.flatMap f).length:=by
 have:=congrArg (fun l=>(l.flatMap f).length) (fC k l);simp only[gy,dQ] at this;omega
noncomputable def prE (p:Prg):List Ed:=p.decls.flatMap deE
def okNd (x:Nd):Prop:=x.name.size≤9223372036854775807
def okEd (x:Ed):Prop:=okNd x.frm∧okNd x.to
theorem NP (x y:Nd) (hx:okNd x) (g d:Nat):ACalls E 176 [AX x,AX y] [] g d (dI (cfNd x y)) []:=by
 refine Ax 32 Tryz.call176 Tryz.func176 ?_;simp only[go_sem];refine Aa fun _ C=>Ac 3 fun _ _=>?_;simp only[go_sem];refine C (Aa fun _ M=>Aa fun _ i=>?_);obtain ⟨f,c,s⟩:=x;obtain ⟨u,m,t⟩:=y;by_cases j:f=u
 ·subst j;have v:cmpI (ordB f) (ordB f)=0:=Jm.2 rfl;refine Ac 5 fun n r=>?_;simp only[go_sem];refine i (Aj (Ae (M (Aa fun _ N=>Aa fun _ p=>?_))));by_cases k:c=m
  ·subst k;have a:cmpS c c=0:=CE.2 rfl;refine Ac 5 fun z T=>?_;simp only[go_sem];refine p (Aj (Ae (N (Aa fun _ O=>Aa fun _ q=>?_))));by_cases b:s < t
   ·refine Ac 5 fun A U=>?_;simp only[go_sem,b];refine q (Al (Aa fun _ P=>Ac 1 fun _ _=>?_));simp only[go_sem];refine P (Ah (Ag ?_));simp only[go_sem];exact Co.of_eq (by simp[cfNd,or3,a,cmpI,b])
   ·refine Ac 5 fun A U=>?_;simp only[go_sem,b];refine q (Aj (Ae (O (Aa fun _ Q=>Aa fun _ o=>?_))));by_cases e:t < s
    ·refine Ac 5 fun B V=>?_;simp only[go_sem,e];refine o (Al (Aa fun _ D=>Ac 1 fun _ _=>?_));simp only[go_sem];refine D (Ah (Ag ?_));simp only[go_sem];exact Co.of_eq (by simp[cfNd,or3,a,cmpI,b,e])
    ·refine Ac 5 fun B V=>?_;simp only[go_sem,e];refine o (Aj (Ae (Q (Aa fun _ F=>Ac 1 fun _ _=>?_))));simp only[go_sem];refine F (Ah (Ag ?_));simp only[go_sem];exact Co.of_eq (by simp[cfNd,or3,a,cmpI,b,e])
  ·have a:cmpS c m≠0:=fun h=>k (CE.1 h);refine Ac 5 fun z T=>?_;simp only[go_sem,k];refine p (Al (Aa fun _ G=>Am fun _ _ _ _ l R=>Af 4 l ?_));simp only[go_sem];refine Ak l (BZ c m hx _ _) ?_;refine Ad 1 l ?_;simp only[go_sem];refine R (G (Ah (Ag ?_)));simp only[go_sem];exact Co.of_eq (by simp[cfNd,or3,v,a])
 ·cases f <;> cases u
  ·exact absurd rfl j
  ·refine Ac 5 fun n r=>?_;simp only[go_sem];refine i (Al (Aa fun _ _=>Aa fun _ H=>Ac 2 fun w S=>?_));simp only[go_sem];refine H (Al (Aa fun _ I=>Ac 1 fun _ _=>?_));simp only[go_sem];refine I (Ah (Ag ?_));simp only[go_sem];exact Co.of_eq (by simp[cfNd,or3,cmpI,ordB])
  ·refine Ac 5 fun n r=>?_;simp only[go_sem];refine i (Al (Aa fun _ J=>Aa fun _ K=>Ac 2 fun w S=>?_));simp only[go_sem];refine K (Aj (Ae (J (Aa fun _ L=>Ac 1 fun _ _=>?_))));simp only[go_sem];refine L (Ah (Ag ?_));simp only[go_sem];exact Co.of_eq (by simp[cfNd,or3,cmpI,ordB])
  ·exact absurd rfl j
theorem Lz (x y:Ed) (hx:okEd x) (g d:Nat):ACalls E 174 [FI x,FI y] [] g d (dB (decide (cfEd x y < 0))) []:=by
 obtain ⟨c,q⟩:∃ c,c=cfNd x.frm y.frm:=⟨_,rfl⟩
 obtain ⟨e,s⟩:∃ e,e=cfNd x.to y.to:=⟨_,rfl⟩
 have r:cfEd x y=or3 c e (cmpI (ordB x.ins) (ordB y.ins)):=by rw[q,s]; rfl
 have l:=NP x.frm y.frm hx.1;have m:=NP x.to y.to hx.2;rw[← q] at l;rw[← s] at m;rw[r];clear r;refine Ax 33 Tryz.call174 Tryz.func174 ?_;simp only[go_sem];refine Aa fun _ v=>Ac 3 fun _ _=>?_;simp only[go_sem];refine v (Aa fun _ w=>Am fun _ _ _ _ j z=>Af 4 j ?_);simp only[go_sem];refine Ak j (l _ _) ?_;refine Ad 1 j ?_;simp only[go_sem];refine z (w (Aa fun _ n=>Aa fun _ o=>?_));by_cases h0:c=0
 ·refine Ac 2 fun u B=>?_;simp only[go_sem,h0];refine o (Al (Am fun _ _ _ _ k A=>Af 4 k ?_));simp only[go_sem];refine Ak k (m _ _) ?_;refine Ad 1 k ?_;simp only[go_sem];refine A (n (Aa fun _ h=>?_));by_cases e0:e < 0
  ·refine Ac 16 fun a b=>?_;simp only[go_sem,e0];refine h (Ah (Ag ?_));simp only[go_sem];exact Co.of_eq (by rw[or3,if_pos h0,if_neg (by omega),decide_eq_true e0])
  ·by_cases i:e=0
   ·subst i;cases t:x.ins with
    | true =>
     refine Ac 16 fun a b=>?_;simp only[go_sem,Int.lt_irrefl];refine h (Ah (Ag ?_));simp only[go_sem];exact Co.of_eq (by cases y.ins <;> simp[or3,h0,cmpI,ordB,t])
    | false =>
     refine Ac 16 fun a b=>?_;simp only[go_sem,Int.lt_irrefl];refine h (Ah (Ag ?_));simp only[go_sem];exact Co.of_eq (by cases y.ins <;> simp[or3,h0,cmpI,ordB,t])
   ·refine Ac 16 fun a b=>?_;simp only[go_sem,e0,i];refine h (Ah (Ag ?_));simp only[go_sem];exact Co.of_eq (by rw[or3,if_pos h0,if_neg i,decide_eq_false e0])
 ·refine Ac 2 fun u B=>?_;simp only[go_sem,h0];refine o (Aj (Ae (n (Aa fun _ p=>?_))));by_cases f:c < 0
  ·refine Ac 16 fun a b=>?_;simp only[go_sem,f];refine p (Ah (Ag ?_));simp only[go_sem];exact Co.of_eq (by rw[or3,if_neg h0,decide_eq_true f])
  ·refine Ac 16 fun a b=>?_;simp only[go_sem,f,h0];refine p (Ah (Ag ?_));simp only[go_sem];exact Co.of_eq (by rw[or3,if_neg h0,decide_eq_false f])
theorem edEq {X Y:Ed} (h:X≠Y):¬ (X.frm.method=Y.frm.method∧X.frm.name=Y.frm.name∧X.frm.idx=Y.frm.idx∧X.to.method=Y.to.method∧X.to.name=Y.to.name∧X.to.idx=Y.to.idx∧X.ins=Y.ins) :=
 fun ⟨a,b,c,d,e,f,g⟩=>h (Ed.eq_iff.2 ⟨Nd.eq_iff.2 ⟨a,b,c⟩,Nd.eq_iff.2 ⟨d,e,f⟩,g⟩)
theorem X0 {e:Ed} {r:List Ed}:putE (e :: r) e=e :: r:=by rw[putE,if_pos (HH.zero e)]
theorem aaW {e x:Ed} {r:List Ed} (h:cfEd e x < 0):putE (x :: r) e=e :: x :: r:=by rw[putE,if_neg (by omega),if_pos h]
theorem aaX {e x:Ed} {r:List Ed} (hne:x≠e) (h:¬ cfEd e x < 0):putE (x :: r) e=x :: putE r e:=by
 rw[putE,if_neg (fun h0=>hne (Jn.1 h0).symm),if_neg h]
set_option maxRecDepth 100000 in
theorem Tv (l:List Ed) (e:Ed) (hse:SE l) (he:okEd e) (hl:l.length≤1000000) (g d:Nat):ACalls E 165 [slEd l,FI e] [] g d (slEd (putE l e)) []:=by
 refine Ax 53 Tryz.call165 Tryz.func165 ?_;simp only[go_sem];refine Aa fun _ ag=>Ac 2 fun o _=>?_;simp only[go_sem];refine ag (Aa fun _ ak=>Ac 1 fun _ _=>?_);simp only[go_sem];refine ak (Aa fun _ al=>Aa fun _ am=>Ac 1 fun _ _=>?_);simp only[go_sem];refine am (Ai ?_);refine Bh 5 126 7 rfl fun P az=>?_;have I:P≠o:=Ar az 3 0 (by simp[go_sem]);refine Ay (fun m st=>∃ k a i n,k≤l.length∧m=l.length - k∧a≠o∧((n=l.take k∧putE l e=l.take k++putE (l.drop k) e)∨(n.length=k + 1∧n++l.drop k=putE l e∧∀ x∈l.drop k,cfEd e x < 0)) ∧
   Le { env:=[(0,slEd l),(3,.ptr ⟨o,3,0⟩ 0),(5,.own ⟨a,i,0⟩ n.length),(6,dN k)],σ:=[(⟨o,3,0⟩,.box 126 (edC e)),(⟨a,i,0⟩,.arr 126 7 (n.map FI))] } st) l.length ?_ ?_
 ·refine ⟨0,P,0,[],dX _,rfl,I,.inl ⟨rfl,rfl⟩,Ao ?_⟩;simp only[go_sem,I,I.symm];all_goals first|trivial|omega
 ·rintro m st ⟨k,a,i,n,hk,rfl,j,w,Y⟩;refine Az Y ?_;clear Y;refine Aa fun _ an=>Aa fun _ S=>?_;by_cases q:k < l.length
  ·have u:=getM (f:=FI) q;have V:=ek q;have a2:l.take (k + 1)=l.take k++[l[k]]:=by rw[ep,dO q]; rfl
   have a1:SE (l.drop k):=hse.sublist (gO k l);rw[V] at w a1;have s:(l.take k).length=k:=eG hk;generalize l[k]=X at *;refine Ac 4 fun g3 av=>?_;simp only[go_sem,q];refine S (Al (Ae (an (Aa fun _ D=>Ai (Aa fun _ ao=>Aa fun _ T=>?_)))));by_cases G:X=e
   ·subst G;have aC:putE l X=l:=by
     rcases w with ⟨-,h⟩ | ⟨-,-,h⟩
     ·rw[h,X0,← V,fC]
     ·have:=h X dY;rw[HH.zero] at this;omega
    refine AE fun g5 aw aD a5 K F=>Ap 6 K ?_;simp only[go_sem,u,j];refine F (T (Al (Aa fun _ ah=>Ac 2 fun _ _=>?_)));simp only[go_sem];refine ah (Ah (Ag ?_));simp only[go_sem];exact Co.of_eq (by rw[aC])
   ·have aB:=edEq G;refine AE fun g5 aw aD a5 K F=>Ap 6 K ?_;simp only[go_sem,u,aB,j];refine F (T (Aj (Ae (ao (Aa fun _ B=>Aa fun _ C=>?_)))));rcases w with ⟨rfl,r⟩ | ⟨a0,r,U⟩
    ·refine AE fun g7 ax aE a6 t z=>Av 10 t ?_;simp only[go_sem,u,j,s];by_cases h0:cfEd e X < 0
     ·refine Aw t (Lz e X he _ _) ?_;refine Ap 1 t ?_;simp only[go_sem,h0];refine z (C (Al (Am fun g8 ay _ _ L aq=>Af 3 L ?_)));simp only[go_sem,j];refine AG L rfl rfl rfl rfl rfl es73 sz126 by126 ze126 rfl (by decide) ?_;simp only[go_sem,j.symm,s];first | refine ⟨⟨by omega,by omega⟩,?_⟩ | skip
      have Z:g8≠o:=Ar ay 3 0 (by simp[go_sem]);refine Ad 1 L ?_;simp only[go_sem];refine aq (B (Am fun p y a3 N c v=>Af 6 c ?_));simp only[go_sem,u];refine AG c rfl rfl rfl rfl rfl es73 sz126 by126 ze126 rfl (by decide) ?_;simp only[go_sem,s,Z.symm];first | refine ⟨⟨by omega,by omega⟩,?_⟩ | skip
      have b:p≠o:=Ar y 3 0 (by simp[go_sem,Z]);refine Ad 1 c ?_;simp only[go_sem];refine v (D (Ac 3 fun O W=>?_));simp only[go_sem];try simp (disch:=omega) only[Au]
      refine ⟨_,?_,k + 1,p,42,l.take k++[e]++[X],q,rfl,b,.inr ⟨by simp[s],?_,fun x M=>?_⟩,Ao ?_⟩
      ·omega
      ·rw[r,aaW h0];simp
      ·have h1:=(hZ.1 a1).1 x M;have h2:=HH.trans e X x (by omega) (by omega);rcases gA h2 with A | A
       ·exact A
       ·have h4:=Jn.1 A;subst h4;have:=HH.anti e X;omega
      simp only[go_sem,s,b,b.symm];all_goals first|trivial|omega
     ·refine Aw t (Lz e X he _ _) ?_;refine Ap 1 t ?_;simp only[go_sem,h0];refine z (C (Aj (Ae (B (Am fun p y a3 N c v=>Af 6 c ?_)))));simp only[go_sem,u];refine AG c rfl rfl rfl rfl rfl es73 sz126 by126 ze126 rfl (by decide) ?_;simp only[go_sem,j.symm,s];first | refine ⟨⟨by omega,by omega⟩,?_⟩ | skip
      have b:p≠o:=Ar y 3 0 (by simp[go_sem]);refine Ad 1 c ?_;simp only[go_sem];refine v (D (Ac 3 fun O W=>?_));simp only[go_sem];try simp (disch:=omega) only[Au]
      refine ⟨_,?_,k + 1,p,42,l.take k++[X],q,rfl,b,.inl ⟨a2.symm,?_⟩,Ao ?_⟩
      ·omega
      ·rw[r,aaX G h0,a2];simp
      simp only[go_sem,s,b,b.symm];all_goals first|trivial|omega
    ·have H:¬ ((n.length:Nat):Int)=(k:Int):=by omega
     refine AE fun g7 ax aE a6 t z=>Ap 12 t ?_;simp only[go_sem,H];refine z (C (Aj (Ae (B (Am fun p y a3 N c v=>Af 6 c ?_)))));simp only[go_sem,u];refine AG c rfl rfl rfl rfl rfl es73 sz126 by126 ze126 rfl (by decide) ?_;simp only[go_sem,j.symm];first | refine ⟨⟨by omega,by omega⟩,?_⟩ | skip
     have b:p≠o:=Ar y 3 0 (by simp[go_sem]);refine Ad 1 c ?_;simp only[go_sem];refine v (D (Ac 3 fun O W=>?_));simp only[go_sem];try simp (disch:=omega) only[Au]
     refine ⟨_,?_,k + 1,p,42,n++[X],q,rfl,b,.inr ⟨by simp[a0],?_,fun x M=>U x (ea _ M)⟩,Ao ?_⟩
     ·omega
     ·rw[← r];simp
     simp only[go_sem,b,b.symm];all_goals first|trivial|omega
  ·have:k=l.length:=by omega
   subst this;rw[eY,eo] at w;refine Ac 4 fun g3 av=>?_;simp only[go_sem,q];refine S (Aj (Aq (al (Aa fun _ Q=>Aa fun _ R=>?_))));rcases w with ⟨rfl,r⟩ | ⟨a0,r,U⟩
   ·refine Ac 5 fun a7 ar=>?_;simp only[go_sem];refine R (Al (Am fun a8 _ _ _ J ap=>Af 3 J ?_));simp only[go_sem,j];refine AG J rfl rfl rfl rfl rfl es73 sz126 by126 ze126 rfl (by decide) ?_;simp only[go_sem,j.symm];first | refine ⟨⟨by omega,by omega⟩,?_⟩ | skip
    refine Ad 1 J ?_;simp only[go_sem];refine ap (Q (Aa fun _ ai=>Ac 2 fun a9 au=>?_));simp only[go_sem];refine ai (Ah ?_);refine AY ⟨a8,51,0⟩ ?_;simp only[go_sem];refine Ag ?_;simp only[go_sem];exact Co.of_eq (by rw[r]; simp[putE]; rfl)
   ·have H:¬ ((n.length:Nat):Int)=(l.length:Int):=by omega
    refine Ac 5 fun a7 ar=>?_;simp only[go_sem,H];refine R (Aj (Ae (Q (Aa fun _ aj=>Ac 2 fun a9 au=>?_))));simp only[go_sem];refine aj (Ah ?_);refine AY ⟨a,i,0⟩ ?_;simp only[go_sem,j.symm];refine Ag ?_;simp only[go_sem];exact Co.of_eq (by rw[← r,fe])
def vrC (p:Str × Nd):List D:=[encS p.1,dB p.2.method,encS p.2.name,dI p.2.idx]
def Ht (p:Str × Nd):D:=.agg (vrC p)
theorem UQ (p:Str × Nd):(Ht p).cells=vrC p:=rfl
def slVr (s:Sc):D:=.sl false (s.map Ht)
attribute [go_sem] UQ Ht vrC slVr
theorem ZG (l:Sc):BO 4 (l.map Ht):=Du 4 _ l fun _=>⟨rfl,rfl⟩
set_option maxRecDepth 100000 in
theorem F4 (s:Sc) (b:Bool) (o:Str) (ns:List Str) (hl:s.length + ns.length≤3000000) (g d:Nat):ACalls E 127 [slVr s,dB b,encS o,slS ns] [] g d (slVr (s++scN b o ns)) []:=by
 have N:s.length≤3000000:=by omega
 refine Ax 33 Tryz.call127 Tryz.func127 ?_;simp only[go_sem];refine Aa fun _ u=>Ac 1 fun _ _=>?_;simp only[go_sem];refine u (Aa fun _ v=>Am fun q _ _ _ e B=>Af 2 e ?_);simp only[go_sem];refine AG e rfl rfl rfl rfl rfl es169 sz188 by188 ze188 rfl (by decide) ?_;simp only[go_sem,ZG];first | refine ⟨⟨by omega,by omega⟩,?_⟩ | skip
 refine Ad 1 e ?_;simp only[go_sem];refine B (v (Aa fun _ w=>Aa fun _ x=>Ac 1 fun _ _=>?_));simp only[go_sem];refine x (Ai ?_);refine Ay (fun m p=>∃ k a i,k≤ns.length∧m=ns.length - k∧Le { env:=[(1,dB b),(2,encS o),(3,slS ns),(9,.own ⟨a,i,0⟩ (s++(scN b o ns).take k).length),(10,dN k)],σ:=[(⟨a,i,0⟩,.arr 188 4 ((s++(scN b o ns).take k).map Ht))] } p) ns.length ?_ ?_
 ·refine ⟨0,q,13,dX _,rfl,Ao ?_⟩;simp only[go_sem];all_goals first|trivial|omega
 ·rintro m p ⟨k,a,i,M,rfl,l⟩;refine Az l ?_;clear l;refine Aa fun _ y=>Aa fun _ j=>?_;by_cases c:k < ns.length
  ·have I:k < (scN b o ns).length:=by rwa [Ff]
   have L:(scN b o ns).take (k + 1)=(scN b o ns).take k++[(ns[k],⟨b,o,(k:Int)⟩)]:=by
    rw[ep,dO I,Qv]
    rfl
   have O:(s++(scN b o ns).take k).length=s.length + k:=by rw[dQ,eG (by omega)]
   have H:=getM (f:=encS) c;generalize D:s++(scN b o ns).take k=T at *;generalize ns[k]=X at *;have n:s++(scN b o ns).take (k + 1)=T++[(X,⟨b,o,(k:Int)⟩)]:=by rw[L,← eE,D]
   refine Ac 4 fun r G=>?_;simp only[go_sem,c];refine j (Al (Ae (y (Aa fun _ z=>Ai (Am fun t _ _ _ h C=>Af 11 h ?_)))));simp only[go_sem,H];refine AG h rfl rfl rfl rfl rfl es169 sz188 by188 ze188 rfl (by decide) ?_;simp only[go_sem];first | refine ⟨⟨by omega,by omega⟩,?_⟩ | skip
   refine Ad 1 h ?_;simp only[go_sem];refine C (z (Ac 3 fun _ _=>?_));simp only[go_sem];try simp (disch:=omega) only[Au]
   refine ⟨_,?_,k + 1,t,31,c,rfl,Ao ?_⟩
   ·omega
   have J:s.map Ht++((scN b o ns).take (k + 1)).map Ht=T.map Ht++[Ht (X,⟨b,o,(k:Int)⟩)]:=by rw[← eC,n,eC]; rfl
   have K:s.length + ((scN b o ns).take (k + 1)).length=T.length + 1:=by rw[← dQ,n,dQ]; rfl
   simp only[go_sem,J,K];all_goals first|trivial|omega
  ·have:k=ns.length:=by omega
   subst this;have F:(scN b o ns).take ns.length=scN b o ns:=fO (by rw[Ff]; exact ec _);refine Ac 4 fun r G=>?_;simp only[go_sem,c,F];refine j (Aj (Aq (w (Aa fun _ A=>Ac 2 fun _ _=>?_))));simp only[go_sem];refine A (Ah ?_);refine AY ⟨a,i,0⟩ ?_;simp only[go_sem];refine Ag ?_;simp only[go_sem];exact Co.refl _
theorem X1 {s:Sc} {k:Nat} {v:Str} (hk:k < s.length) (h:s[k].1=v) (hl:Bm (s.drop k) v=Bm s v):Bm s v=some s[k].2:=by
 rw[← hl,ek hk,Bm,if_pos h]
theorem Wx {s:Sc} {k:Nat} {v:Str} (hk:k < s.length) (h:s[k].1≠v) (hl:Bm (s.drop k) v=Bm s v):Bm (s.drop (k + 1)) v=Bm s v:=by
 rw[← hl,ek hk,Bm,if_neg h]
theorem Gm {α β:Type} (f:α→List β) {l:List α} {k:Nat} (h:k < l.length):((l.take k).flatMap f).length + (f l[k]).length≤(l.flatMap f).length:=by
 have b:=E3 f h;have a:=abC f l (k + 1);rw[b,dQ] at a;exact a
set_option maxRecDepth 100000 in
theorem UR (s:Sc) (hs:∀ p∈s,okNd p.2) (hsl:s.length≤3000000) (to:Nd) (hto:okNd to):∀ (t:Ty),okTy t→∀ (ins:Bool) (R:List Ed),SE R→R.length + (inE s to t ins).length≤1000000→∀ (g d:Nat),
  ACalls E 146 [slEd R,slVr s,AX to,AC t,dB ins] [] g d (slEd ((inE s to t ins).foldl putE R)) []:=by
 refine Ty.ind fun t ih aI ins R H hL g d=>?_;have h:=(DJ t).1 aI;rw[IV,dQ] at hL;by_cases h0:t.args.length=0
 ·have K:((t.args.length:Nat):Int)=0:=by omega
  have aH:t.args=[]:=h8.1 h0;refine Ax 60 Tryz.call146 Tryz.func146 ?_;simp only[go_sem];refine Aa fun K1 L=>Ac 3 fun b aB=>?_;simp only[go_sem];refine L (Aa fun K2 B=>Aa fun K3 Q=>Ac 1 fun g1 aC=>?_);simp only[go_sem];refine Q (Ai ?_);refine Ay (fun m i=>∃ k,k≤s.length∧m=s.length - k∧Bm (s.drop k) t.name=Bm s t.name∧Le { env:=[(0,slEd R),(1,slVr s),(4,dB ins),(7,.ptr ⟨b,7,0⟩ 0),(8,.ptr ⟨b,8,0⟩ 0),(11,dN k)],σ:=[(⟨b,7,0⟩,.box 124 (ndC to)),(⟨b,8,0⟩,.box 25 (tyC t))] } i) s.length ?_ ?_
  ·refine ⟨0,dX _,rfl,rfl,Ao ?_⟩;simp only[go_sem,tyC];all_goals first|trivial|omega
  ·rintro m i ⟨k,W,rfl,F,c⟩;refine Az c ?_;clear c;refine Aa fun K4 a6=>Aa fun K5 u=>?_;by_cases j:k < s.length
   ·have l:=getM (f:=Ht) j;refine Ac 10 fun J V=>?_;simp only[go_sem,j,K,tyC];refine u (Al (Ae (a6 (Aa fun K6 S=>Ai (Aa fun K7 C=>?_)))));by_cases I:s[k].1=t.name
    ·have Y:=X1 j I F;have hx:=hs _ (dP j);have o:(inE s to t ins).foldl putE R=putE R ⟨s[k].2,to,ins⟩:=by
      rw[IV,aH];unfold hdE;rw[Y];simp only[h0,if_true]
      rfl
     have aG:R.length≤1000000:=by omega
     generalize s[k]=X at *;refine AE fun g4 aD aK au Z U=>Ap 8 Z ?_;simp only[go_sem,l,I];refine U (C (Al (Aa fun K8 T=>AF 10 fun _ _ _ _ G az=>Av 9 G ?_)));simp only[go_sem,l];refine Aw G (Tv R ⟨X.2,to,ins⟩ H ⟨hx,hto⟩ aG _ _) ?_;refine Ap 0 G ?_;simp only[go_sem];refine Ad 1 G ?_;simp only[go_sem];refine az (T (Ah (Ag ?_)));simp only[go_sem];exact Co.of_eq (by rw[o])
    ·have Y:=Wx j I F;generalize s[k]=X at *;refine AE fun g4 aD aK au Z U=>Ap 8 Z ?_;simp only[go_sem,l,I];refine U (C (Aj (Ae (S (Ac 3 fun _ _=>?_)))));simp only[go_sem];try simp (disch:=omega) only[Au]
     refine ⟨_,?_,k + 1,j,rfl,Y,Ao ?_⟩
     ·omega
     simp only[go_sem,tyC];all_goals first|trivial|omega
   ·have o:(inE s to t ins).foldl putE R=(t.args.flatMap fun t=>inE s to t true).foldl putE R:=by
     have aF:s.drop k=[]:=fp (by omega);rw[aF] at F;rw[IV];unfold hdE;rw[← F]
     rfl
    refine Ac 10 fun J V=>?_;simp only[go_sem,j,tyC];refine u (Aj (Aq (B (Aa fun K9 D=>Aa fun af M=>Ac 1 fun g6 a9=>?_))));simp only[go_sem];refine M (Ai ?_);refine Ay (fun m i=>∃ k,k≤t.args.length∧m=t.args.length - k∧Le { env:=[(0,slEd (((t.args.take k).flatMap fun t=>inE s to t true).foldl putE R)),(1,slVr s),(7,.ptr ⟨b,7,0⟩ 0),(8,.ptr ⟨b,8,0⟩ 0),(12,dN k)],σ:=[(⟨b,7,0⟩,.box 124 (ndC to)),(⟨b,8,0⟩,.box 25 (tyC t))] } i) t.args.length ?_ ?_
    ·refine ⟨0,dX _,rfl,Ao ?_⟩;simp only[go_sem,fZ,tyC];all_goals first|trivial|omega
    ·rintro m i ⟨k,W,rfl,c⟩;refine Az c ?_;clear c;refine Aa fun ag N=>Aa fun ah A=>?_;by_cases a:k < t.args.length
     ·have w:((t.args.take (k + 1)).flatMap fun t=>inE s to t true).foldl putE R=(inE s to t.args[k] true).foldl putE (((t.args.take k).flatMap fun t=>inE s to t true).foldl putE R):=by
       rw[E3 _ a,eQ]
      have l:=getM (f:=AC) a;have n:=dP a;have a7:=Gm (fun t=>inE s to t true) a;have hq:=BW ((t.args.take k).flatMap fun t=>inE s to t true) R;have z:=Cs ((t.args.take k).flatMap fun t=>inE s to t true) R H;generalize t.args[k]=X at *;generalize ((t.args.take k).flatMap fun t=>inE s to t true).foldl putE R=q at *;refine Ac 5 fun r y=>?_;simp only[go_sem,a,tyC];refine A (Al (Ae (N (Aa fun ai O=>Ai (AF 9 fun g9 ab ad a0 e v=>Av 8 e ?_)))));simp only[go_sem,l];refine AI e rfl rfl rfl (ih X n (h.2.2 X n) true q z (by omega) _ _) (CoL.refl _) rfl ?_;refine Ap 0 e ?_
      simp only[go_sem];refine Ad 1 e ?_;simp only[go_sem];refine v (O (Ac 3 fun g8 aa=>?_));simp only[go_sem];try simp (disch:=omega) only[Au]
      refine ⟨_,?_,k + 1,a,rfl,Ao ?_⟩
      ·omega
      simp only[go_sem,w,tyC];all_goals first|trivial|omega
     ·have:k=t.args.length:=by omega
      subst this;refine Ac 5 fun r y=>?_;simp only[go_sem,a,tyC];refine A (Aj (Aq (D (Aa fun aj P=>Ac 2 fun a1 a8=>?_))));simp only[go_sem];refine P (Ah (Ag ?_));simp only[go_sem];exact Co.of_eq (by rw[o])
 ·have K:¬ ((t.args.length:Nat):Int)=0:=by omega
  have aE:hdE s to t ins=[]:=by
   unfold hdE;cases Bm s t.name with
   | none=>rfl
   | some x=>simp only[h0,if_false]
  have o:(inE s to t ins).foldl putE R=(t.args.flatMap fun t=>inE s to t true).foldl putE R:=by rw[IV,aE,gt]
  refine Ax 60 Tryz.call146 Tryz.func146 ?_;simp only[go_sem];refine Aa fun K1 L=>Ac 3 fun b aB=>?_;simp only[go_sem];refine L (Aa fun K2 B=>Aa fun K3 Q=>Ac 1 fun g1 aC=>?_);simp only[go_sem];refine Q (Ai ?_);refine Ay (fun m i=>Le { env:=[(0,slEd R),(1,slVr s),(7,.ptr ⟨b,7,0⟩ 0),(8,.ptr ⟨b,8,0⟩ 0),(11,dN 0)],σ:=[(⟨b,7,0⟩,.box 124 (ndC to)),(⟨b,8,0⟩,.box 25 (tyC t))] } i) 0 ?_ ?_
  ·refine Ao ?_;simp only[go_sem,tyC];all_goals first|trivial|omega
  ·rintro m i c;refine Az c ?_;clear c;refine Aa fun K4 a6=>Aa fun K5 u=>?_;by_cases j:0 < s.length
   ·refine Ac 10 fun J V=>?_;simp only[go_sem,j,K,tyC];refine u (Aj (Aq (B (Aa fun K6 S=>Aa fun K7 C=>Ac 1 fun g6 a9=>?_))));simp only[go_sem];refine C (Ai ?_);refine Ay (fun m i=>∃ k,k≤t.args.length∧m=t.args.length - k∧Le { env:=[(0,slEd (((t.args.take k).flatMap fun t=>inE s to t true).foldl putE R)),(1,slVr s),(7,.ptr ⟨b,7,0⟩ 0),(8,.ptr ⟨b,8,0⟩ 0),(12,dN k)],σ:=[(⟨b,7,0⟩,.box 124 (ndC to)),(⟨b,8,0⟩,.box 25 (tyC t))] } i) t.args.length ?_ ?_
    ·refine ⟨0,dX _,rfl,Ao ?_⟩;simp only[go_sem,fZ,tyC];all_goals first|trivial|omega
    ·rintro m i ⟨k,W,rfl,c⟩;refine Az c ?_;clear c;refine Aa fun K8 T=>Aa fun K9 D=>?_;by_cases a:k < t.args.length
     ·have w:((t.args.take (k + 1)).flatMap fun t=>inE s to t true).foldl putE R=(inE s to t.args[k] true).foldl putE (((t.args.take k).flatMap fun t=>inE s to t true).foldl putE R):=by
       rw[E3 _ a,eQ]
      have l:=getM (f:=AC) a;have n:=dP a;have a7:=Gm (fun t=>inE s to t true) a;have hq:=BW ((t.args.take k).flatMap fun t=>inE s to t true) R;have z:=Cs ((t.args.take k).flatMap fun t=>inE s to t true) R H;generalize t.args[k]=X at *;generalize ((t.args.take k).flatMap fun t=>inE s to t true).foldl putE R=q at *;refine Ac 5 fun r y=>?_;simp only[go_sem,a,tyC];refine D (Al (Ae (T (Aa fun af M=>Ai (AF 9 fun g9 ab ad a0 e v=>Av 8 e ?_)))));simp only[go_sem,l];refine AI e rfl rfl rfl (ih X n (h.2.2 X n) true q z (by omega) _ _) (CoL.refl _) rfl ?_;refine Ap 0 e ?_
      simp only[go_sem];refine Ad 1 e ?_;simp only[go_sem];refine v (M (Ac 3 fun g8 aa=>?_));simp only[go_sem];try simp (disch:=omega) only[Au]
      refine ⟨_,?_,k + 1,a,rfl,Ao ?_⟩
      ·omega
      simp only[go_sem,w,tyC];all_goals first|trivial|omega
     ·have:k=t.args.length:=by omega
      subst this;refine Ac 5 fun r y=>?_;simp only[go_sem,a,tyC];refine D (Aj (Aq (S (Aa fun ag N=>Ac 2 fun a1 a8=>?_))));simp only[go_sem];refine N (Ah (Ag ?_));simp only[go_sem];exact Co.of_eq (by rw[o])
   ·refine Ac 10 fun J V=>?_;simp only[go_sem,j,tyC];refine u (Aj (Aq (B (Aa fun ah A=>Aa fun ai O=>Ac 1 fun g6 a9=>?_))));simp only[go_sem];refine O (Ai ?_);refine Ay (fun m i=>∃ k,k≤t.args.length∧m=t.args.length - k∧Le { env:=[(0,slEd (((t.args.take k).flatMap fun t=>inE s to t true).foldl putE R)),(1,slVr s),(7,.ptr ⟨b,7,0⟩ 0),(8,.ptr ⟨b,8,0⟩ 0),(12,dN k)],σ:=[(⟨b,7,0⟩,.box 124 (ndC to)),(⟨b,8,0⟩,.box 25 (tyC t))] } i) t.args.length ?_ ?_
    ·refine ⟨0,dX _,rfl,Ao ?_⟩;simp only[go_sem,fZ,tyC];all_goals first|trivial|omega
    ·rintro m i ⟨k,W,rfl,c⟩;refine Az c ?_;clear c;refine Aa fun aj P=>Aa fun _ a5=>?_;by_cases a:k < t.args.length
     ·have w:((t.args.take (k + 1)).flatMap fun t=>inE s to t true).foldl putE R=(inE s to t.args[k] true).foldl putE (((t.args.take k).flatMap fun t=>inE s to t true).foldl putE R):=by
       rw[E3 _ a,eQ]
      have l:=getM (f:=AC) a;have n:=dP a;have a7:=Gm (fun t=>inE s to t true) a;have hq:=BW ((t.args.take k).flatMap fun t=>inE s to t true) R;have z:=Cs ((t.args.take k).flatMap fun t=>inE s to t true) R H;generalize t.args[k]=X at *;generalize ((t.args.take k).flatMap fun t=>inE s to t true).foldl putE R=q at *;refine Ac 5 fun r y=>?_;simp only[go_sem,a,tyC];refine a5 (Al (Ae (P (Aa fun _ ax=>Ai (AF 9 fun g9 ab ad a0 e v=>Av 8 e ?_)))));simp only[go_sem,l];refine AI e rfl rfl rfl (ih X n (h.2.2 X n) true q z (by omega) _ _) (CoL.refl _) rfl ?_;refine Ap 0 e ?_
      simp only[go_sem];refine Ad 1 e ?_;simp only[go_sem];refine v (ax (Ac 3 fun g8 aa=>?_));simp only[go_sem];try simp (disch:=omega) only[Au]
      refine ⟨_,?_,k + 1,a,rfl,Ao ?_⟩
      ·omega
      simp only[go_sem,w,tyC];all_goals first|trivial|omega
     ·have:k=t.args.length:=by omega
      subst this;refine Ac 5 fun r y=>?_;simp only[go_sem,a,tyC];refine a5 (Aj (Aq (A (Aa fun _ ay=>Ac 2 fun a1 a8=>?_))));simp only[go_sem];refine ay (Ah (Ag ?_));simp only[go_sem];exact Co.of_eq (by rw[o])
theorem Ru (sc:Sc) (b:Bool) (o:Str):∀ (l r:List Ty) (i:Nat),(Bs sc (l++r) b o i).length=(Bs sc l b o i).length + (Bs sc r b o (i + l.length)).length
 | [],r,i=>by simp[Bs]
 | x :: l,r,i=>by
  simp only[f8,Bs,dQ,Ru sc b o l r (i + 1),eB];rw[show i + 1 + l.length=i + (l.length + 1) by omega];omega
theorem ZH (sc:Sc) (b:Bool) (o:Str) (l:List Ty) (k:Nat):(Bs sc (l.take k) b o 0).length≤(Bs sc l b o 0).length:=by
 have:=Ru sc b o (l.take k) (l.drop k) 0;rw[fC] at this;omega
theorem X3 (sc:Sc) (b:Bool) (o:Str) (l:List Ty) (k:Nat) (h:k < l.length):(Bs sc (l.take k) b o 0).length + ((inE sc ⟨b,o,(k:Int)⟩ l[k] false).length + (visE sc l[k]).length)≤(Bs sc l b o 0).length:=by
 have a:=ZH sc b o l (k + 1);rw[PL _ _ _ _ _ h,dQ,dQ] at a;exact a
abbrev RArg (s:Sc) (x:Ty):Prop:=∀ (R:List Ed),SE R→R.length + (visE s x).length≤1000000→∀ (g d:Nat),ACalls E 129 [slEd R,slVr s,dB false,encS x.name,slTy x.args] [] g d (slEd ((visE s x).foldl putE R)) []
set_option maxRecDepth 100000 in
theorem Kd (s:Sc) (hs:∀ p∈s,okNd p.2) (hsl:s.length≤3000000) (l:List Ty) (hl:l.length≤9223372036854775807) (hok:∀ x∈l,okTy x) (hv:∀ x∈l,RArg s x) (b:Bool) (o:Str) (ho:o.size≤9223372036854775807) (R:List Ed) (hse:SE R) (hL:R.length + (Bs s l b o 0).length≤1000000) (g d:Nat) :
  ACalls E 129 [slEd R,slVr s,dB b,encS o,slTy l] [] g d (slEd ((Bs s l b o 0).foldl putE R)) []:=by
 refine Ax 43 Tryz.call129 Tryz.func129 ?_;simp only[go_sem];refine Aa fun _ w=>Ac 1 fun _ _=>?_;simp only[go_sem];refine w (Aa fun _ y=>Aa fun _ z=>Ac 1 fun _ _=>?_);simp only[go_sem];refine z (Ai ?_);refine Ay (fun m t=>∃ k,k≤l.length∧m=l.length - k∧Le { env:=[(0,slEd ((Bs s (l.take k) b o 0).foldl putE R)),(1,slVr s),(2,dB b),(3,encS o),(4,slTy l),(11,dN k)],σ:=[] } t) l.length ?_ ?_
 ·refine ⟨0,dX _,rfl,Ao ?_⟩;simp only[go_sem,Bs];all_goals first|trivial|omega
 ·rintro m t ⟨k,L,rfl,n⟩;refine Az n ?_;clear n;refine Aa fun _ A=>Aa fun _ i=>?_;by_cases a:k < l.length
  ·have H:(Bs s (l.take (k + 1)) b o 0).foldl putE R=(visE s l[k]).foldl putE ((inE s ⟨b,o,(k:Int)⟩ l[k] false).foldl putE ((Bs s (l.take k) b o 0).foldl putE R)):=by
    rw[PL _ _ _ _ _ a,eQ,eQ]
   have j:=getM (f:=AC) a;have q:=dP a;have K:=X3 s b o l k a;have M:=BW (Bs s (l.take k) b o 0) R;have r:=Cs (Bs s (l.take k) b o 0) R hse;generalize l[k]=X at *;generalize (Bs s (l.take k) b o 0).foldl putE R=c at *;have N:=BW (inE s ⟨b,o,(k:Int)⟩ X false) c;have J:=Cs (inE s ⟨b,o,(k:Int)⟩ X false) c r;refine Ac 4 fun v I=>?_;simp only[go_sem,a];refine i (Al (Ae (A (Aa fun _ B=>Ai (Aa fun _ C=>Am fun _ _ _ _ h F=>Af 10 h ?_)))));simp only[go_sem,j];refine AA h rfl rfl rfl (UR s hs hsl ⟨b,o,(k:Int)⟩ ho X (hok X q) false c r (by omega) _ _) (CoL.refl _) ?_;refine Ad 1 h ?_
   simp only[go_sem];refine F (C ?_);generalize (inE s ⟨b,o,(k:Int)⟩ X false).foldl putE c=u at *;refine AF 13 fun _ _ _ _ e G=>Av 12 e ?_;simp only[go_sem,j];refine AI e rfl rfl rfl (hv X q u J (by omega) _ _) (CoL.refl _) rfl ?_;refine Ap 0 e ?_;simp only[go_sem];refine Ad 1 e ?_;simp only[go_sem];refine G (B (Ac 3 fun _ _=>?_));simp only[go_sem];try simp (disch:=omega) only[Au]
   refine ⟨_,?_,k + 1,a,rfl,Ao ?_⟩
   ·omega
   simp only[go_sem,H];all_goals first|trivial|omega
  ·have:k=l.length:=by omega
   subst this;refine Ac 4 fun v I=>?_;simp only[go_sem,a];refine i (Aj (Aq (y (Aa fun _ D=>Ac 2 fun _ _=>?_))));simp only[go_sem];refine D (Ah (Ag ?_));simp only[go_sem];exact Co.refl _
theorem Fw (s:Sc) (hs:∀ p∈s,okNd p.2) (hsl:s.length≤3000000):∀ (t:Ty),okTy t→RArg s t:=by
 refine Ty.ind fun t ih c R e a g d=>?_;have h:=(DJ t).1 c;rw[Kc] at a ⊢;exact Kd s hs hsl t.args h.2.1 h.2.2 (fun x b=>ih x b (h.2.2 x b)) false t.name h.1 R e a g d
theorem Sd (s:Sc) (hs:∀ p∈s,okNd p.2) (hsl:s.length≤3000000) (l:List Ty) (hl:l.length≤9223372036854775807) (hok:∀ x∈l,okTy x) (b:Bool) (o:Str) (ho:o.size≤9223372036854775807) (R:List Ed) (hse:SE R) (hL:R.length + (Bs s l b o 0).length≤1000000) (g d:Nat) :
  ACalls E 129 [slEd R,slVr s,dB b,encS o,slTy l] [] g d (slEd ((Bs s l b o 0).foldl putE R)) [] :=
 Kd s hs hsl l hl hok (fun x hx=>Fw s hs hsl x (hok x hx)) b o ho R hse hL g d
set_option maxRecDepth 100000 in
theorem JJ (s:Sc) (hs:∀ p∈s,okNd p.2) (hsl:s.length≤3000000) (x:Sig) (hx:smSi x) (R:List Ed) (hse:SE R) (hL:R.length + (siE s x).length≤1000000) (g d:Nat) :
  ACalls E 128 [slEd R,slVr s,AH x] [] g d (slEd ((siE s x).foldl putE R)) []:=by
 obtain ⟨h1,C,D,F⟩:=hx;obtain ⟨b,n⟩:∃ b,b=(x.formals.flatMap fun f=>visE s f.bound).foldl putE R:=⟨_,rfl⟩
 have a1:(siE s x).foldl putE R=(visE s x.result).foldl putE ((x.params.flatMap fun f=>visE s f.type).foldl putE b):=by
  unfold siE;rw[eQ,eQ,n]
 unfold siE at hL;rw[dQ,dQ] at hL;have a0:=BW (x.formals.flatMap fun f=>visE s f.bound) R;have v:=Cs (x.formals.flatMap fun f=>visE s f.bound) R hse;rw[← n] at a0 v;refine Ax 66 Tryz.call128 Tryz.func128 ?_;simp only[go_sem];refine Aa fun _ G=>Ac 2 fun h _=>?_;simp only[go_sem];refine G (Aa fun _ J=>Aa fun _ K=>Ac 1 fun _ _=>?_);simp only[go_sem];refine K (Ai ?_)
 refine Ay (fun m e=>∃ k,k≤x.formals.length∧m=x.formals.length - k∧Le { env:=[(0,slEd (((x.formals.take k).flatMap fun f=>visE s f.bound).foldl putE R)),(1,slVr s),(5,.ptr ⟨h,5,0⟩ 0),(7,dN k)],σ:=[(⟨h,5,0⟩,.box 46 (siC x))] } e) x.formals.length ?_ ?_
 ·refine ⟨0,dX _,rfl,Ao ?_⟩;simp only[go_sem,fZ];all_goals first|trivial|omega
 ·rintro m e ⟨k,Y,rfl,c⟩;refine Az c ?_;clear c;refine Aa fun _ L=>Aa fun _ y=>?_;by_cases a:k < x.formals.length
  ·have o:((x.formals.take (k + 1)).flatMap fun f=>visE s f.bound).foldl putE R=(visE s x.formals[k].bound).foldl putE (((x.formals.take k).flatMap fun f=>visE s f.bound).foldl putE R):=by
    rw[E3 _ a,eQ]
   have q:=getM (f:=Bz) a;have r:=C.2 _ (dP a);have U:=Gm (fun f=>visE s f.bound) a;have Z:=BW ((x.formals.take k).flatMap fun f=>visE s f.bound) R;have u:=Cs ((x.formals.take k).flatMap fun f=>visE s f.bound) R hse;generalize x.formals[k]=X at *;generalize ((x.formals.take k).flatMap fun f=>visE s f.bound).foldl putE R=l at *;refine Ac 5 fun A V=>?_;simp only[go_sem,a];refine y (Al (Ae (L (Aa fun _ M=>Ai (AF 17 fun _ _ _ _ i Q=>Av 16 i ?_)))));simp only[go_sem,q];refine AI i rfl rfl rfl (Fw s hs hsl X.bound (smTy.ok _ r.2) l u (by omega) _ _) (CoL.refl _) rfl ?_
   refine Ap 0 i ?_;simp only[go_sem];refine Ad 1 i ?_;simp only[go_sem];refine Q (M (Ac 3 fun _ _=>?_));simp only[go_sem];try simp (disch:=omega) only[Au]
   refine ⟨_,?_,k + 1,a,rfl,Ao ?_⟩
   ·omega
   simp only[go_sem,o];all_goals first|trivial|omega
  ·have:k=x.formals.length:=by omega
   subst this;refine Ac 5 fun A V=>?_;simp only[go_sem,a];refine y (Aj (Aq (J (Aa fun _ N=>Aa fun _ O=>?_))));rw[← n];refine Ac 1 fun _ _=>?_;simp only[go_sem];refine O (Ai ?_);refine Ay (fun m e=>∃ k,k≤x.params.length∧m=x.params.length - k∧Le { env:=[(0,slEd (((x.params.take k).flatMap fun f=>visE s f.type).foldl putE b)),(1,slVr s),(5,.ptr ⟨h,5,0⟩ 0),(8,dN k)],σ:=[(⟨h,5,0⟩,.box 46 (siC x))] } e) x.params.length ?_ ?_
   ·refine ⟨0,dX _,rfl,Ao ?_⟩;simp only[go_sem,fZ];all_goals first|trivial|omega
   ·rintro m e ⟨k,Y,rfl,c⟩;refine Az c ?_;clear c;refine Aa fun _ P=>Aa fun _ w=>?_;by_cases a:k < x.params.length
    ·have o:((x.params.take (k + 1)).flatMap fun f=>visE s f.type).foldl putE b=(visE s x.params[k].type).foldl putE (((x.params.take k).flatMap fun f=>visE s f.type).foldl putE b):=by
      rw[E3 _ a,eQ]
     have q:=getM (f:=Bt) a;have r:=D.2 _ (dP a);have U:=Gm (fun f=>visE s f.type) a;have Z:=BW ((x.params.take k).flatMap fun f=>visE s f.type) b;have u:=Cs ((x.params.take k).flatMap fun f=>visE s f.type) b v;generalize x.params[k]=X at *;generalize ((x.params.take k).flatMap fun f=>visE s f.type).foldl putE b=l at *;refine Ac 5 fun B W=>?_;simp only[go_sem,a];refine w (Al (Ae (P (Aa fun _ H=>Ai (AF 17 fun _ _ _ _ j S=>Av 16 j ?_)))));simp only[go_sem,q];refine AI j rfl rfl rfl (Fw s hs hsl X.type (smTy.ok _ r.2) l u (by omega) _ _) (CoL.refl _) rfl ?_;refine Ap 0 j ?_
     simp only[go_sem];refine Ad 1 j ?_;simp only[go_sem];refine S (H (Ac 3 fun _ _=>?_));simp only[go_sem];try simp (disch:=omega) only[Au]
     refine ⟨_,?_,k + 1,a,rfl,Ao ?_⟩
     ·omega
     simp only[go_sem,o];all_goals first|trivial|omega
    ·have:k=x.params.length:=by omega
     subst this;refine Ac 5 fun B W=>?_;simp only[go_sem,a];refine w (Aj (Aq (N (Aa fun _ I=>?_))));have a4:=BW (x.params.flatMap fun f=>visE s f.type) b;have a2:=Cs (x.params.flatMap fun f=>visE s f.type) b v;generalize (x.params.flatMap fun f=>visE s f.type).foldl putE b=z at *;refine Am fun _ _ _ _ t T=>Af 8 t ?_;simp only[go_sem];refine AA t rfl rfl rfl (Fw s hs hsl x.result (smTy.ok _ F) z a2 (by omega) _ _) (CoL.refl _) ?_;refine Ad 1 t ?_;simp only[go_sem];refine T (I (Ah (Ag ?_)));simp only[go_sem];exact Co.of_eq (by rw[a1])
end Go.Proofs.T
