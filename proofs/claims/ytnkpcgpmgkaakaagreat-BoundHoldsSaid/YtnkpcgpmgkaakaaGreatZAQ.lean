/- A part of the proof: ZAQ. -/
import Derived.Test.YtnkpcgpmgkaakaaGreatZAP
import Derived.Scope
namespace Go.Proofs.T
open Go Go.Ab Go.RowKit
theorem CH:smTy BV:=(Bi _).2 ⟨show (0:Nat)≤1000000 by decide,show (0:Nat)≤1000000 by decide,fun _ hx=>nomatch hx⟩
theorem Su (b:Bool) (o:Str) (ns:List Str) (ho:o.size≤9223372036854775807):∀ p∈scN b o ns,okNd p.2:=by
 intro p a;unfold scN at a;obtain ⟨i,c,rfl⟩:=List.mem_mapIdx.1 a;exact ho
theorem Tw {s t:Sc} (hs:∀ p∈s,okNd p.2) (ht:∀ p∈t,okNd p.2):∀ p∈s++t,okNd p.2:=fun p hp=>(eu.1 hp).elim (hs p) (ht p)
noncomputable abbrev fmN (b:Bool) (o:Str) (l:List Formal):Sc:=scN b o (l.map (·.name))
noncomputable def rxE (sc:Sc) (e:Ex):List Ed:=visE sc e.type++Bs sc e.targs true e.name 0
noncomputable def rmS (d:Dec):Sc:=scN false d.name d.vars++fmN true d.sig.name d.sig.formals
noncomputable def rmE (d:Dec):List Ed:=siE (rmS d) d.sig++(AB d.body).flatMap (rxE (rmS d))
noncomputable def rsE (d:Dec):List Ed:=siE (fmN false d.name d.formals) ⟨ByteArray.empty,d.formals,d.fields,BV,0⟩++d.sigs.flatMap fun x=>siE (fmN false d.name d.formals++fmN true x.name x.formals) x
noncomputable def rdE (d:Dec):List Ed:=if d.kind=3 then rmE d else rsE d
set_option maxRecDepth 100000 in
theorem Tx (d:Dec) (hd:smDe d) (R:List Ed) (hse:SE R) (hL:R.length + (rdE d).length≤1000000) (hN:(AB d.body).length≤1000000) (g r:Nat) :
  ACalls E 85 [slEd R,Ce d] [] g r (slEd ((rdE d).foldl putE R)) []:=by
 obtain ⟨k1,⟨k2,k3⟩,⟨k4,k5⟩,⟨k6,k7⟩,k8,⟨k9,aS⟩,t,a2⟩:=hd;by_cases v:d.kind=3
 ·unfold rdE at hL ⊢;rw[if_pos v] at hL ⊢;unfold rmE at hL ⊢;rw[eQ];rw[dQ] at hL;have j:∀ p∈rmS d,okNd p.2:=Tw (Su _ _ _ (ef k1 (by decide))) (Su _ _ _ (ef t.1 (by decide)));have av:(rmS d).length≤2000000:=by
   unfold rmS fmN;rw[dQ,Ff,Ff,ei];have:=t.2.1.1;omega
  have s:=fun g r=>F4 [] false d.name d.vars (by simp; omega) g r;have C:=fun g r=>F4 (scN false d.name d.vars) true d.sig.name (d.sig.formals.map (·.name)) (by have:=t.2.1.1; rw[Ff,ei]; omega) g r;have aH:(rmS d)=scN false d.name d.vars++scN true d.sig.name (d.sig.formals.map (·.name)):=rfl;rw[← aH] at C;rw[gt] at s;generalize rmS d=S at *;generalize scN false d.name d.vars=S1 at *;have ay:=aaV d.body a2;have Z:=fun g r=>JJ S j (by omega) d.sig t R hse (by omega) g r;have aG:=BW (siE S d.sig) R;have Y:=Cs (siE S d.sig) R hse
  generalize (siE S d.sig).foldl putE R=a at *;have hb:=fun g r=>DB d.body (smEx.ok _ a2) hN g r;have au:a.length + ((AB d.body).flatMap (rxE S)).length≤1000000:=by omega
  generalize AB d.body=L at *;refine Ax 113 Tryz.call85 Tryz.func85 ?_;simp only[go_sem];refine Aa fun K1 H=>Ac 2 fun D az=>?_;simp only[go_sem];refine H (Aa fun K2 a0=>Aa fun K3 J=>Ac 3 fun g1 aA=>?_);simp only[go_sem,v];refine J (Al (Aa fun K4 K=>AF 13 fun _ _ _ _ h an=>Av 4 h ?_));simp only[go_sem];refine AI h rfl rfl rfl (s _ _) (.cons (.nil _) (CoL.refl _)) (by simp[nwOk]) ?_;refine Av 6 h ?_;simp only[go_sem];refine AI h rfl rfl rfl (BA d.sig.formals t.2.1.1 _ _) (CoL.refl _) (by simp[nwOk]) ?_;refine AI h rfl rfl rfl (C _ _) (CoL.refl _) (by simp[nwOk]) ?_;refine Ap 0 h ?_
  simp only[go_sem];refine Ad 1 h ?_;simp only[go_sem];refine an (K (Aa fun K5 M=>Am fun _ _ _ _ V ao=>Af 4 V ?_));simp only[go_sem];refine Ak V (Z _ _) ?_;refine Ad 1 V ?_;simp only[go_sem];refine ao (M (Aa fun K6 N=>Am fun _ _ _ _ W ap=>Af 2 W ?_));simp only[go_sem];refine Ak W (hb _ _) ?_;refine Ad 1 W ?_;simp only[go_sem];refine ap (N (Aa fun K7 O=>Aa fun K8 P=>Ac 1 fun _ _=>?_));simp only[go_sem];refine P (Ai ?_);refine Ay (fun m u=>∃ k,k≤L.length∧m=L.length - k∧Le { env:=[(0,slEd (((L.take k).flatMap (rxE S)).foldl putE a)),(5,slVr S),(6,slEx L),(7,dN k)],σ:=[] } u) L.length ?_ ?_
  ·refine ⟨0,dX _,rfl,Ao ?_⟩;simp only[go_sem,fZ];all_goals first|trivial|omega
  ·rintro m u ⟨k,hk,rfl,o⟩;refine Az o ?_;clear o;refine Aa fun K9 y=>Aa fun a4 w=>?_;by_cases b:k < L.length
   ·have Q:((L.take (k + 1)).flatMap (rxE S)).foldl putE a=(Bs S L[k].targs true L[k].name 0).foldl putE ((visE S L[k].type).foldl putE (((L.take k).flatMap (rxE S)).foldl putE a)):=by
     rw[E3 _ b,eQ,rxE,eQ]
    have n:=getM (f:=AK) b;have c:=(Bd _).1 (ay _ (dP b));have l:=Gm (rxE S) b;have hq:=BW ((L.take k).flatMap (rxE S)) a;have B:=Cs ((L.take k).flatMap (rxE S)) a Y;unfold rxE at l;rw[dQ] at l;change (((L.take k).flatMap (rxE S)).length + _≤((L.flatMap (rxE S))).length) at l;generalize L[k]=X at *;generalize ((L.take k).flatMap (rxE S)).foldl putE a=i at *;have aR:=BW (visE S X.type) i;have aI:=Cs (visE S X.type) i B;refine Ac 4 fun g6 aC=>?_;simp only[go_sem,b];refine w (Al (Ae (y (Aa fun a5 I=>Ai (Aa fun _ ai=>AF 15 fun _ _ _ _ z aq=>Av 14 z ?_)))))
    simp only[go_sem,n];refine AI z rfl rfl rfl (Fw S j (by omega) X.type (smTy.ok _ c.2.1) i B (by omega) _ _) (CoL.refl _) rfl ?_;refine Ap 0 z ?_;simp only[go_sem];refine Ad 1 z ?_;simp only[go_sem];refine aq (ai ?_);generalize (visE S X.type).foldl putE i=R3 at *;refine AF 13 fun _ _ _ _ A ar=>Av 12 A ?_;simp only[go_sem,n];refine AI A rfl rfl rfl (Sd S j (by omega) X.targs (ef c.2.2.1.1 (by decide)) (fun x hx=>smTy.ok _ (c.2.2.1.2 x hx)) true X.name (ef c.1 (by decide)) R3 aI (by omega) _ _) (CoL.refl _) rfl ?_;refine Ap 0 A ?_;simp only[go_sem];refine Ad 1 A ?_
    simp only[go_sem];refine ar (I (Ac 3 fun _ _=>?_));simp only[go_sem];try simp (disch:=omega) only[Au]
    refine ⟨_,?_,k + 1,b,rfl,Ao ?_⟩
    ·omega
    simp only[go_sem,Q];all_goals first|trivial|omega
   ·have:k=L.length:=by omega
    subst this;refine Ac 4 fun g6 aC=>?_;simp only[go_sem,b];refine w (Aj (Aq (O (Aa fun _ aj=>Ac 2 fun _ _=>?_))));simp only[go_sem];refine aj (Ah (Ag ?_));simp only[go_sem];exact Co.refl _
 ·unfold rdE at hL ⊢;rw[if_neg v] at hL ⊢;unfold rsE at hL ⊢;rw[eQ];rw[dQ] at hL;have aJ:smSi ⟨ByteArray.empty,d.formals,d.fields,BV,0⟩:=⟨show (0:Nat)≤1000000 by decide,⟨show d.formals.length≤1000000 by omega,k3⟩,⟨k4,k5⟩,CH⟩
  have j:∀ p∈fmN false d.name d.formals,okNd p.2:=Su _ _ _ (ef k1 (by decide));have av:(fmN false d.name d.formals).length≤2000:=by
   unfold fmN;rw[Ff,ei];exact k2
  have s:=fun g r=>F4 [] false d.name (d.formals.map (·.name)) (by simp; omega) g r;rw[gt] at s;unfold fmN at *;generalize scN false d.name (d.formals.map (·.name))=S at *;have Z:=fun g r=>JJ S j (by omega) _ aJ R hse (by omega) g r;have aG:=BW (siE S ⟨ByteArray.empty,d.formals,d.fields,BV,0⟩) R;have Y:=Cs (siE S ⟨ByteArray.empty,d.formals,d.fields,BV,0⟩) R hse;generalize (siE S ⟨ByteArray.empty,d.formals,d.fields,BV,0⟩).foldl putE R=a at *;obtain ⟨F,G⟩:∃ F:Sig→List Ed,F=fun x=>siE (S++scN true x.name (x.formals.map (·.name))) x:=⟨_,rfl⟩
  rw[← G] at hL ⊢;have au:a.length + (d.sigs.flatMap F).length≤1000000:=by omega
  refine Ax 113 Tryz.call85 Tryz.func85 ?_;simp only[go_sem];refine Aa fun K1 H=>Ac 2 fun D az=>?_;simp only[go_sem];refine H (Aa fun K2 a0=>Aa fun K3 J=>Ac 3 fun g1 aA=>?_);simp only[go_sem,v];refine J (Aj (Ae (a0 (Aa fun K4 K=>AF 6 fun _ _ _ _ q ak=>Av 4 q ?_))));simp only[go_sem];refine AI q rfl rfl rfl (BA d.formals (by omega) _ _) (CoL.refl _) (by simp[nwOk]) ?_;refine AI q rfl rfl rfl (s _ _) (.cons (.nil _) (CoL.refl _)) (by simp[nwOk]) ?_;refine Ap 0 q ?_;simp only[go_sem];refine Ad 1 q ?_;simp only[go_sem];refine ak (K (Aa fun K5 M=>Am fun _ _ _ _ U al=>Af 7 U ?_))
  simp only[go_sem];refine AA U rfl rfl rfl (Z _ _) (.cons (.refl _) (.cons (.refl _) (.cons (.agg (.cons (.refl _) (.cons (.refl _) (.cons (.refl _) (.cons (.refl _) (.cons (.nil _) (.cons (.refl _) (.cons (.refl _) .nil)))))))) .nil))) ?_;refine Ad 1 U ?_;simp only[go_sem];refine al (M (Aa fun K6 N=>Aa fun K7 O=>Ac 1 fun _ _=>?_));simp only[go_sem];refine O (Ai ?_);refine Ay (fun m u=>∃ k,k≤d.sigs.length∧m=d.sigs.length - k∧Le { env:=[(0,slEd (((d.sigs.take k).flatMap F).foldl putE a)),(3,.ptr ⟨D,3,0⟩ 0),(8,slVr S),(9,dN k)],σ:=[(⟨D,3,0⟩,.box 48 (deC d))] } u) d.sigs.length ?_ ?_
  ·refine ⟨0,dX _,rfl,Ao ?_⟩;simp only[go_sem,fZ];all_goals first|trivial|omega
  ·rintro m u ⟨k,hk,rfl,o⟩;refine Az o ?_;clear o;refine Aa fun K8 P=>Aa fun K9 y=>?_;by_cases b:k < d.sigs.length
   ·have Q:((d.sigs.take (k + 1)).flatMap F).foldl putE a=(siE (S++scN true d.sigs[k].name (d.sigs[k].formals.map (·.name))) d.sigs[k]).foldl putE (((d.sigs.take k).flatMap F).foldl putE a):=by
     rw[E3 _ b,eQ,show F d.sigs[k]=siE (S++scN true d.sigs[k].name (d.sigs[k].formals.map (·.name))) d.sigs[k] by rw[G]]
    have n:=getM (f:=AH) b;have c:=k7 _ (dP b);have l:=Gm F b;rw[show F d.sigs[k]=siE (S++scN true d.sigs[k].name (d.sigs[k].formals.map (·.name))) d.sigs[k] by rw[G]] at l;have hq:=BW ((d.sigs.take k).flatMap F) a;have B:=Cs ((d.sigs.take k).flatMap F) a Y;generalize d.sigs[k]=X at *;generalize ((d.sigs.take k).flatMap F).foldl putE a=i at *;have C:=fun g r=>F4 S true X.name (X.formals.map (·.name)) (by have:=c.2.1.1; rw[ei]; omega) g r;have aE:∀ p∈S++scN true X.name (X.formals.map (·.name)),okNd p.2:=Tw j (Su _ _ _ (ef c.1 (by decide)))
    have aw:(S++scN true X.name (X.formals.map (·.name))).length≤3000000:=by
     have:=c.2.1.1;rw[dQ,Ff,ei];omega
    generalize S++scN true X.name (X.formals.map (·.name))=T at *;refine Ac 5 fun ag aB=>?_;simp only[go_sem,b];refine y (Al (Ae (P (Aa fun a4 w=>Ai (AF 22 fun _ _ _ _ e am=>Av 14 e ?_)))));simp only[go_sem,n];refine AI e rfl rfl rfl (BA X.formals c.2.1.1 _ _) (CoL.refl _) (by simp[nwOk]) ?_;refine AI e rfl rfl rfl (C _ _) (CoL.refl _) (by simp[nwOk]) ?_;refine Av 5 e ?_;simp only[go_sem,n];refine AI e rfl rfl rfl (JJ T aE aw X c i B (by omega) _ _) (CoL.refl _) (by simp[nwOk]) ?_;refine Ap 0 e ?_;simp only[go_sem];refine Ad 1 e ?_;simp only[go_sem];refine am (w (Ac 3 fun _ _=>?_))
    simp only[go_sem];try simp (disch:=omega) only[Au]
    refine ⟨_,?_,k + 1,b,rfl,Ao ?_⟩
    ·omega
    simp only[go_sem,Q];all_goals first|trivial|omega
   ·have:k=d.sigs.length:=by omega
    subst this;refine Ac 5 fun ag aB=>?_;simp only[go_sem,b];refine y (Aj (Aq (N (Aa fun a5 I=>Ac 2 fun _ _=>?_))));simp only[go_sem];refine I (Ah (Ag ?_));simp only[go_sem];exact Co.refl _
noncomputable def rpE (p:Prg):List Ed:=p.decls.flatMap rdE
set_option maxRecDepth 100000 in
theorem Qw (p:Prg) (hp:smPr p) (hE:(rpE p).length≤1000000) (hN:∀ d∈p.decls,(AB d.body).length≤1000000) (g d:Nat):ACalls E 41 [AZ p] [] g d (slEd (setE (rpE p))) []:=by
 obtain ⟨⟨H,D⟩,I⟩:=hp;unfold rpE at hE;refine Ax 20 Tryz.call41 Tryz.func41 ?_;simp only[go_sem];refine Aa fun _ n=>Ac 2 fun c _=>?_;simp only[go_sem];refine n (Aa fun _ o=>Ac 1 fun _ _=>?_);simp only[go_sem];refine o (Aa fun _ q=>Aa fun _ r=>Ac 1 fun _ _=>?_);simp only[go_sem];refine r (Ai ?_);refine Pj 3 (slEd []) ?_;simp only[go_sem];refine ⟨.nil _,?_⟩;refine Ay (fun m i=>∃ k,k≤p.decls.length∧m=p.decls.length - k∧Le { env:=[(1,.ptr ⟨c,1,0⟩ 0),(3,slEd (((p.decls.take k).flatMap rdE).foldl putE [])),(4,dN k)],σ:=[(⟨c,1,0⟩,.box 30 (prC p))] } i) p.decls.length ?_ ?_
 ·refine ⟨0,dX _,rfl,Ao ?_⟩;simp only[go_sem,fZ];all_goals first|trivial|omega
 ·rintro m i ⟨k,G,rfl,h⟩;refine Az h ?_;clear h;refine Aa fun _ s=>Aa fun _ e=>?_;by_cases a:k < p.decls.length
  ·have x:((p.decls.take (k + 1)).flatMap rdE).foldl putE []=(rdE p.decls[k]).foldl putE (((p.decls.take k).flatMap rdE).foldl putE []):=by
    rw[E3 _ a,eQ]
   have z:=getM (f:=Ce) a;have w:=D _ (dP a);have A:=hN _ (dP a);have F:=Gm rdE a;have B:=BW ((p.decls.take k).flatMap rdE) [];have C:=Cs ((p.decls.take k).flatMap rdE) [] List.Pairwise.nil;generalize p.decls[k]=X at *;generalize ((p.decls.take k).flatMap rdE).foldl putE []=j at *;rw[eZ] at B;refine Ac 5 fun l y=>?_;simp only[go_sem,a];refine e (Al (Ae (s (Aa fun _ t=>Ai (Am fun _ _ _ _ b v=>Af 6 b ?_)))));simp only[go_sem,z];refine AA b rfl rfl rfl (Tx X w j C (by omega) A _ _) (CoL.refl _) ?_;refine Ad 1 b ?_;simp only[go_sem]
   refine v (t (Ac 3 fun _ _=>?_));simp only[go_sem];try simp (disch:=omega) only[Au]
   refine ⟨_,?_,k + 1,a,rfl,Ao ?_⟩
   ·omega
   simp only[go_sem,x];all_goals first|trivial|omega
  ·have:k=p.decls.length:=by omega
   subst this;refine Ac 5 fun l y=>?_;simp only[go_sem,a];refine e (Aj (Aq (q (Aa fun _ u=>Ac 2 fun _ _=>?_))));simp only[go_sem];refine u (Ah (Ag ?_));simp only[go_sem];exact Co.refl _
section
variable {s s' : Sc} (h:∀ v,Bm s v=Bm s' v)
include h
theorem X4 (to:Nd) (t:Ty) (ins:Bool):hdE s to t ins=hdE s' to t ins:=by
 unfold hdE;rw[h]
theorem X5 (to:Nd):∀ (t:Ty) (ins:Bool),inE s to t ins=inE s' to t ins:=by
 refine Ty.ind fun t ih ins=>?_;rw[IV,IV,X4 h]
 congr 1
 have:∀ l:List Ty,(∀ x∈l,∀ ins,inE s to x ins=inE s' to x ins)→(l.flatMap fun t=>inE s to t true)=l.flatMap fun t=>inE s' to t true:=by
  intro l;induction l with
  | nil=>intro _; rfl
  | cons x r c =>
   intro a;rw[eO,eO,a x dY,c fun y b=>a y (ea _ b)]
 exact this t.args ih
theorem IW:∀ (l:List Ty),(∀ x∈l,visE s x=visE s' x)→∀ (b:Bool) (o:Str) (i:Nat),Bs s l b o i=Bs s' l b o i
 | [],_,_,_,_=>by simp[Bs]
 | x :: r,hl,b,o,i=>by
  simp only[Bs];rw[X5 h,hl x dY,IW r (fun y hy=>hl y (ea _ hy))]
theorem If:∀ t:Ty,visE s t=visE s' t:=by
 refine Ty.ind fun t ih=>?_;rw[Kc,Kc];exact IW h t.args ih _ _ _
theorem US (l:List Ty) (b:Bool) (o:Str) (i:Nat):Bs s l b o i=Bs s' l b o i:=IW h l (fun x _=>If h x) b o i
theorem Rv (x:Sig):siE s x=siE s' x:=by
 have a:visE s=visE s':=funext (If h);unfold siE;rw[a]
theorem X6 (x:Ex):exE s x=exE s' x:=by
 unfold exE;rw[If h,US h]
end
theorem Rw (b:Bool) (o:Str) (ns:List Str) (v:Str):Bm (M0 [] b o ns) v=Bm (scN b o ns) v:=by
 unfold M0;rw[La,gt]
theorem Tz {s s' : Sc} (h:∀ v,Bm s v=Bm s' v) (b:Bool) (o:Str) (ns:List Str) (v:Str):Bm (M0 s b o ns) v=Bm (s'++scN b o ns) v:=by
 unfold M0;rw[La,ET,ET,h]
theorem X7 (s:Sc):visE s BV=[]:=by
 rw[Kc]
 rfl
theorem Wy:∀ e:Ex,BI e=true→∀ x∈AB e,BI x=true:=by
 refine Ex.ind fun e ih b x a=>?_;rw[BC] at a;rcases eq.1 a with rfl | a
 ·exact b
 ·rw[BF] at a;obtain ⟨y,c,a⟩:=ez.1 a;rw[DX,ej] at b;exact ih y c (eL.1 b.1 y c) x a
theorem UT {x:Ex} (h:BI x=true) (hk:x.kind≠2):x.targs=[]:=by
 rw[DX,ej] at h;have a:=h.2;unfold GH at a;rw[ej] at a;have b:=eL.1 a.1
 match c:x.targs with
 | []=>rfl
 | t :: r =>
  rw[c] at b;have:=b t dY;rw[ej] at this;exact absurd (of_decide_eq_true this.1) hk
theorem Wz {d:Dec} (h:Cd d=true) (h3:d.kind=3):BI d.body=true:=by
 unfold Cd at h;simp only[ej] at h;have a:=h.2.2.2.2.2;unfold DQ at a;rw[if_pos h3] at a;unfold IQ at a;simp only[ej] at a;exact a.2.2.2
theorem abD {d:Dec} (h:Cd d=true):rdE d=deE d:=by
 unfold rdE deE;by_cases a:d.kind=3
 ·rw[if_pos a,if_pos a];unfold rmE dmE;have b:∀ v,Bm (rmS d) v=Bm (dmS d) v:=fun v=>by
   unfold rmS dmS fmS fmN;exact (Tz (Rw false d.name d.vars) true d.sig.name (d.sig.formals.map fun f:Formal=>f.name) v).symm
  rw[Rv b]
  congr 1
  have g:=Wy d.body (Wz h a);have:∀ l:List Ex,(∀ x∈l,BI x=true)→l.flatMap (rxE (rmS d))=l.flatMap (exE (dmS d)):=by
   intro l;induction l with
   | nil=>intro _; rfl
   | cons x r ih =>
    intro e;rw[eO,eO,ih fun y k=>e y (ea _ k),← X6 b]
    congr 1
    unfold rxE exE;by_cases c:x.kind=2
    ·rw[if_pos c]
    ·rw[if_neg c,UT (e x dY) c];simp[Bs]
  exact this _ g
 ·rw[if_neg a,if_neg a];unfold rsE dsE;have b:∀ v,Bm (fmN false d.name d.formals) v=Bm (fmS [] false d.name d.formals) v:=fun v=>(Rw false d.name _ v).symm;have j:=funext (If b);have i:(fun x:Sig=>siE (fmN false d.name d.formals++fmN true x.name x.formals) x)=fun x=>siE (fmS (fmS [] false d.name d.formals) true x.name x.formals) x:=by
   funext x
   exact Rv (fun v=>(Tz (fun v=>(b v).symm) true x.name (x.formals.map (·.name)) v).symm) x
  rw[i]
  congr 1
  unfold siE;simp only[X7,fe];rw[j]
theorem TC {p:Prg} (h:BY p=true):rpE p=prE p:=by
 unfold BY at h;rw[ej] at h;have a:=eL.1 h.1;unfold rpE prE;generalize p.decls=l at *;clear h;induction l with
 | nil=>rfl
 | cons x r ih=>rw[eO,eO,abD (a x dY),ih fun y b=>a y (ea _ b)]
theorem aaY (s:Sc) (to:Nd) (t:Ty) (ins:Bool):(hdE s to t ins).length≤1:=by
 unfold hdE;split
 ·split <;> simp
 ·simp
theorem aaZ (s:Sc) (to:Nd):∀ (t:Ty) (ins:Bool),(inE s to t ins).length≤(AO t).length:=by
 refine Ty.ind fun t ih ins=>?_;have d:=aaY s to t ins;have:∀ l:List Ty,(∀ x∈l,∀ ins,(inE s to x ins).length≤(AO x).length)→(l.flatMap fun t=>inE s to t true).length≤wN l:=by
  intro l;induction l with
  | nil=>intro _; simp
  | cons x r c =>
   intro a;have:=a x dY true;have:=c fun y b=>a y (ea _ b);rw[eO,dQ,Fc];omega
 have:=this t.args ih;rw[IV,dQ,DW,eB];unfold wN at this;omega
theorem Mu (s:Sc) (M:Nat):∀ (l:List Ty),(∀ x∈l,(visE s x).length≤(AO x).length * M)→∀ (b:Bool) (o:Str) (i:Nat),(Bs s l b o i).length≤wN l * (M + 1)
 | [],_,_,_,_=>by simp[Bs]
 | x :: r,hl,b,o,i=>by
  have h1:=hl x dY;have h2:=Mu s M r (fun y hy=>hl y (ea _ hy)) b o (i + 1);have h3:=aaZ s ⟨b,o,(i:Int)⟩ x false;simp only[Bs,dQ];rw[Fc,fG,iv (AO x).length];omega
theorem Lb (s:Sc):∀ (t:Ty) (M:Nat),(AO t).length≤M→(visE s t).length≤(AO t).length * M:=by
 refine Ty.ind fun t ih M a=>?_;rw[DW,eB] at a ⊢;change wN t.args + 1≤M at a;change _≤(wN t.args + 1) * M;rw[Kc];have:=Mu s (M - 1) t.args (fun x b=>ih x b (M - 1) (by have:=DA b; omega)) false t.name 0;rw[show M - 1 + 1=M by omega] at this;rw[fG];omega
theorem Lc {α:Type} (f:α→List Ed) (g:α→List Ty) (C:Nat):∀ l:List α,(∀ x∈l,(f x).length≤wN (g x) * C)→(l.flatMap f).length≤wN (l.flatMap g) * C
 | [],_=>by simp
 | x :: r,h=>by
  have h1:=h x dY;have h2:=Lc f g C r fun y hy=>h y (ea _ hy);rw[eO,eO,dQ,AW,fG];omega
theorem Ke {α:Type} (s:Sc) (f:α→Ty) (M:Nat):∀ l:List α,(∀ x∈l,(AO (f x)).length≤M)→(l.flatMap fun x=>visE s (f x)).length≤wN (l.map f) * (M + 1)
 | [],_=>by simp
 | x :: r,h=>by
  have h1:=Lb s (f x) M (h x dY);have h2:=Ke s f M r fun y hy=>h y (ea _ hy);rw[eO,eM,dQ,Fc,fG,iv (AO (f x)).length];omega
theorem VB (s:Sc) (x:Sig) (M:Nat) (h:wN (AP x)≤M):(siE s x).length≤wN (AP x) * (M + 1):=by
 unfold AP at h ⊢;simp only[AW,Fc,XP] at h ⊢;have b:=Ke s (fun f:Formal=>f.bound) M x.formals fun f a=>by
  have:=DA (eh.2 ⟨f,a,rfl⟩:f.bound∈x.formals.map (·.bound));omega
 have c:=Ke s (fun f:Param=>f.type) M x.params fun f a=>by
  have:=DA (eh.2 ⟨f,a,rfl⟩:f.type∈x.params.map (·.type));omega
 have d:=Lb s x.result M (by omega);unfold siE;rw[dQ,dQ];simp only[gD,fG];rw[iv (AO x.result).length];omega
theorem aa0 (s:Sc) (x:Ex) (M:Nat) (h:wN (x.type :: x.targs)≤M):(exE s x).length≤wN (x.type :: x.targs) * (M + 1):=by
 rw[Fc] at h ⊢;have b:=Lb s x.type M (by omega);have c:=Mu s M x.targs (fun t a=>Lb s t M (by have:=DA a; omega)) true x.name 0;unfold exE;rw[dQ,fG,iv (AO x.type).length];split
 ·omega
 ·simp only[eZ];omega
theorem aa1 (d:Dec) (M:Nat) (h:wN (Bl d)≤M):(deE d).length≤wN (Bl d) * (M + 1):=by
 unfold Bl at h ⊢;simp only[AW] at h ⊢;simp only[fG];unfold deE;by_cases g:d.kind=3
 ·rw[if_pos g];unfold dmE;have i:=VB (dmS d) d.sig M (by omega);have e:=Lc (exE (dmS d)) (fun x=>x.type :: x.targs) (M + 1) (AB d.body) fun x c=>aa0 _ x M (by
   have:∀ l:List Ex,x∈l→wN (x.type :: x.targs)≤wN (l.flatMap fun x=>x.type :: x.targs):=by
    intro l;induction l with
    | nil=>intro a; cases a
    | cons y r ih =>
     intro a;rw[eO,AW];rcases eq.1 a with rfl | a
     ·omega
     ·have:=ih a;omega
   have:=this _ c;change _≤wN (CA d.body) at this;omega)
  rw[dQ];change _≤wN (CA d.body) * _ at e;omega
 ·rw[if_neg g];unfold dsE;have i:=Ke (fmS [] false d.name d.formals) (fun f:Formal=>f.bound) M d.formals fun f b=>by
   have:=DA (eh.2 ⟨f,b,rfl⟩:f.bound∈d.formals.map (·.bound));omega
  have e:=Ke (fmS [] false d.name d.formals) (fun f:Param=>f.type) M d.fields fun f b=>by
   have:=DA (eh.2 ⟨f,b,rfl⟩:f.type∈d.fields.map (·.type));omega
  have j:=Lc (fun x:Sig=>siE (fmS (fmS [] false d.name d.formals) true x.name x.formals) x) AP (M + 1) d.sigs fun x c=>VB _ x M (by
   have:∀ l:List Sig,x∈l→wN (AP x)≤wN (l.flatMap AP):=by
    intro l;induction l with
    | nil=>intro a; cases a
    | cons y r ih =>
     intro a;rw[eO,AW];rcases eq.1 a with rfl | a
     ·omega
     ·have:=ih a;omega
   have:=this _ c;omega)
  rw[dQ,dQ];omega
theorem VC {p:Prg} (h:wN (Bx p)≤600):(prE p).length≤1000000:=by
 have b:=Lc deE Bl 601 p.decls fun d a=>aa1 d 600 (by have:=IR a; omega);unfold prE;have:wN (p.decls.flatMap Bl)≤600:=by
  unfold Bx at h;rw[AW] at h;omega
 have:=fw 601 this;omega
def txt (n:Nd) (u:Nat):Str:=(if n.method then ⟨#[46]⟩ else ByteArray.empty)++n.name++⟨#[58]⟩++decS u
theorem _root_.Go.Ab.Co.two {x:Bool} {r1 r1' r2 r2' : D} (h1:CoL r1.cells r1'.cells) (h2:CoL r2.cells r2'.cells):Co (.sl x [r1,r2]) (.sl false [r1',r2']) :=
 Co.sl (fun h=>nomatch h) rfl fun i _ _ hr hr'=>by
  match i,hr,hr' with
  | 0,hr,hr'=>cases hr; cases hr'; exact h1
  | 1,hr,hr'=>cases hr; cases hr'; exact h2
  | i + 2,hr,hr'=>simp at hr
def sW:Str:=⟨#[87]⟩
def sa:Str:=⟨#[97]⟩
def sm:Str:=⟨#[109]⟩
def tA:Ty:=.mk sa [] 0
def tAny:Ty:=.mk ⟨#[65,110,121]⟩ [] 0
def tWW:Ty:=.mk sW [.mk sW [tA] 0] 0
def d0:Dec:=⟨1,sW,[⟨sa,tAny,0⟩],[],[],ByteArray.empty,[],Bw,Cb,0⟩
def m0:Dec:=⟨3,sW,[],[],[],⟨#[119]⟩,[sa],⟨sm,[],[],tAny,0⟩,.mk 3 ByteArray.empty tWW [] [] 0,0⟩
def p0:Prg:=⟨[d0,m0],.mk 1 ⟨#[120]⟩ BV [] [] 0⟩
def n0:Nd:=⟨false,sW,0⟩
theorem aa2 {p:Prg} (hw:wN (Bx p)≤600):∀ d∈p.decls,(AB d.body).length≤1000000:=fun d hd=>by
 have h1:=KX d.body;have h2:=PF d;have h3:=IR hd;omega
theorem ZI (m:List Ed):(setE m).length≤m.length:=by
 have:=BW m [];simpa [setE] using this
noncomputable def stE (d:Dec):List Ed:=setE (deE d)
def X8 (e:Ex):Bool:=(AB e).all fun x=>decide (x.targs.length=0)
def aa3 (d:Dec):Bool:=decide (d.formals.length + d.vars.length + d.sig.formals.length=0) && (X8 d.body && d.sigs.all fun s=>decide (s.formals.length=0))
def aa4 (p:Prg):Bool:=(tyPr p).all (fun t=>decide (t.args.length=0)) && (p.decls.all aa3 && X8 p.main)
section
variable {p:Prg} (hr:BY p=true) (hp:aa4 p=true)
include hp
include hr
end
def hasS (x:Nd) (s:Sig):Bool:=x.method && (decide (s.name=x.name) && decide (x.idx < (s.formals.length:Int)))
def hasD (x:Nd) (d:Dec):Bool:=(!x.method && (decide (d.name=x.name) && decide (x.idx < (d.formals.length:Int)))) || (d.sigs++[d.sig]).any (hasS x)
noncomputable def ab5 (s:Str) (l:List Dec):Nat:=l.foldl (fun m d=>if d.name=s then max m d.formals.length else m) 0
noncomputable def memB (x:Nd) (l:List Nd):Bool:=by classical exact decide (x∈l)
theorem Ev {x:Nd} {l:List Nd}:memB x l=true↔x∈l:=by unfold memB; simp
theorem Rx {x:Nd} {l:List Nd} {k:Nat} (h:k < l.length):memB x (l.take (k + 1))=true↔memB x (l.take k)=true∨l[k]=x:=by
 rw[Ev,Ev,ep,dO h,eu];simp[eq_comm]
theorem Jo {α:Type}:∀ (l m:List α),l.Nodup→(∀ x∈l,x∈m)→l.length≤m.length
 | [],_,_,_=>dX _
 | x :: l,m,hn,h=>by
  obtain ⟨s,t,rfl⟩:=List.append_of_mem (h x dY);obtain ⟨h1,h2⟩:=fA.1 hn;have:=Jo l (s++t) h2 fun y hy=>by
   have:=h y (ea _ hy);simp only[eu,eq] at this ⊢;rcases this with h | rfl | h
   ·exact .inl h
   ·exact absurd hy h1
   ·exact .inr h
  simp only[dQ,eB] at this ⊢;omega
noncomputable def frN (l:List Dec):Nat→Nat
 | 0=>0
 | k + 1=>frN l k + (match l[k]? with | some d=>d.formals.length - ab5 d.name (l.take k) | none=>0)
def ac5 (x:Nd):Prop:=okNd x∧-9223372036854775808≤x.idx∧x.idx≤9223372036854775807
inductive Rch (l:List Ed) (n:Nd):Nd→Prop
 | one {e:Ed}:e∈l→e.frm=n→Rch l n e.to
 | more {e:Ed}:Rch l n e.frm→e∈l→Rch l n e.to
theorem Rch.mono {l m:List Ed} (h:∀ e∈l,e∈m) {n x:Nd} (hr:Rch l n x):Rch m n x:=by
 induction hr with
 | one b a=>exact .one (h _ b) a
 | more _ a ih=>exact .more ih (h _ a)
theorem Rch.target {l:List Ed} {n x:Nd} (h:Rch l n x):∃ e∈l,e.to=x:=by
 cases h with
 | one a _=>exact ⟨_,a,rfl⟩
 | more _ b=>exact ⟨_,b,rfl⟩
abbrev Ms:=List (Nd × Ed)
def F5 (es:Ms):List Nd:=es.map (·.1)
def allN (n:Nd) (es:Ms):List Nd:=n :: F5 es
structure Bfs (l:List Ed) (n:Nd) (es:Ms):Prop where
 nodup:(F5 es).Nodup
 to:∀ p∈es,p.2∈l∧p.2.to=p.1
 back:∀ (i:Nat) p,es[i]?=some p→p.2.frm=n∨∃ j q,j < i∧es[j]?=some q∧q.1=p.2.frm
theorem Bfs.nil (l:List Ed) (n:Nd):Bfs l n []:=⟨iu,(fun p h=>nomatch h),(fun _ p h=>by simp at h)⟩
theorem Bfs.add {l:List Ed} {n:Nd} {es:Ms} (h:Bfs l n es) {e:Ed} (he:e∈l) (hn:e.to∉F5 es) (hf:e.frm∈allN n es):Bfs l n (es++[(e.to,e)]):=by
 refine ⟨?_,fun p a=>?_,fun i p a=>?_⟩
 ·unfold F5 at *;rw[eC,gc];refine ⟨h.nodup,by simp,fun _ k _ f=>?_⟩;simp only[eM,f9,eg] at f;subst f;rintro rfl;exact hn k
 ·rcases eu.1 a with a | a
  ·exact h.to p a
  ·rw[eg.1 a];exact ⟨he,rfl⟩
 ·by_cases m:i < es.length
  ·rw[eF m] at a;rcases h.back i p a with b | ⟨j,q,b,c,d⟩
   ·exact .inl b
   ·exact .inr ⟨j,q,b,by rw[eF (by omega)]; exact c,d⟩
  ·rw[eJ (by omega)] at a;have h0:i - es.length=0:=by
    have:=(dW.1 a).1;simp at this;omega
   rw[h0] at a;cases a;rcases eq.1 hf with b | b
   ·exact .inl b
   ·obtain ⟨q,o,c⟩:=eh.1 b;obtain ⟨j,g,d⟩:=eT.1 o;exact .inr ⟨j,q,by omega,by rw[eF g,dO g,d],c⟩
theorem X9 (es:Ms) (p:Nd × Ed):F5 (es++[p])=F5 es++[p.1]:=by simp[F5]
def Clo (l:List Ed) (x:Nd) (es:Ms):Prop:=∀ e∈l,e.frm=x→e.to∈F5 es
theorem Clo.add {l:List Ed} {x:Nd} {es:Ms} (h:Clo l x es) (p:Nd × Ed):Clo l x (es++[p]):=fun e he hf=>by
 rw[X9];exact eI _ (h e he hf)
theorem Bfs.rch {l:List Ed} {n:Nd} {es:Ms} (h:Bfs l n es):∀ (i:Nat) p,es[i]?=some p→Rch l n p.1:=by
 intro i;induction i using Nat.strongRecOn with
 | _ i ih =>
  intro p b;obtain ⟨a,c⟩:=h.to p (ew b);rw[← c];rcases h.back i p b with d | ⟨j,q,f,g,e⟩
  ·exact .one a d
  ·refine .more ?_ a;rw[← e];exact ih j f q g
theorem Bfs.all {l:List Ed} {n:Nd} {es:Ms} (h:Bfs l n es) (hc:∀ x∈allN n es,Clo l x es) (x:Nd):x∈F5 es↔Rch l n x:=by
 constructor
 ·intro b;obtain ⟨p,f,rfl⟩:=eh.1 b;obtain ⟨i,e,d⟩:=eT.1 f;exact h.rch i p (by rw[dO e,d])
 ·intro b;induction b with
  | one c a=>exact hc n dY _ c a
  | more _ a ih=>exact hc _ (ea _ ih) _ a rfl
theorem Bfs.len {l:List Ed} {n:Nd} {es:Ms} (h:Bfs l n es):es.length≤l.length:=by
 have c:(es.map (·.2)).Nodup:=by
  have d:(es.map (·.2)).map (·.to)=F5 es:=by
   unfold F5;rw[fB];exact gW fun p a=>(h.to p a).2
  have b:=h.nodup;rw[← d] at b;exact List.Pairwise.of_map _ (fun _ _ f e=>f (by rw[e])) b
 have:=Jo _ l c fun e g=>by
  obtain ⟨p,a,rfl⟩:=eh.1 g;exact (h.to p a).1
 simpa using this
def ndV (x:Nd):Value:=.agg #[.bool x.method,.string x.name,.int .i64 x.idx]
def ksM:KS:=.agg [.boo,.str,.num .i64]
attribute [go_sem] ksM
def encM (es:Ms):List (Value × D):=es.map fun p=>(ndV p.1,FI p.2)
open Classical in
noncomputable def aae:Ms→Nd→Option Ed
 | [],_=>none
 | p :: r,x=>if p.1=x then some p.2 else aae r x
end Go.Proofs.T
namespace Go.Ab
open Go Go.RowKit
section
variable {P:Program} (w:World)
end
section
variable {E:Ctx} {N:Nat} {ops:List Oper} {ds:List (Option Tmp)} {g:Nat} {K:St→Prop} {st:St} {o:Oper} {r:List Oper}
def TOpX (E:Ctx) (g:Nat) (o:Oper) (e:Operand→D) (κ:Kp) (S:D→Sto→Prop):Prop :=
 ∀ w0,E.A w0→∀ G w (a:Act),WF w0 G w→(∀ x∈o.op.operands,V G w (a.eval x) (e x))→Objs w0 G w κ→(∀ d,o.dst=some d→g < G.top∧∀ j,G.ρ ⟨g,d,j⟩=none) →
  ∀ (K:Act→World→Prop) (Q' : Exit→Act→World→Prop),
   (∀ G' w' x v σ',S v σ'→WF w0 G' w'→V G' w' x v→Objs w0 G' w' (get σ')→Step (rsv g o.dst) G w κ G' w' (get σ')→K (a.put o.dst x) w')→∀ r,o.wpIn (Fr r) 0 E.P a w K Q'
def AppQ (g d:Nat) (n:Nm) (el:TypeId) (k off len:Nat) (rows rows2:List D) (σ:Sto) (v:D) (σ' : Sto):Prop :=
 ∃ off' rows',off'≤off∧off' + (len + rows2.length)=rows'.length∧rows'.drop off'=rows.drop off++rows2∧v=.osl ⟨g,d,0⟩ k off' (len + rows2.length)∧σ'=(⟨g,d,0⟩,.arr el k rows') :: del σ n
end
section
variable {E:Ctx} {N:Nat} {st:St} {Q:Exit→St→Prop}
end
section
variable {E:Ctx} {N:Nat} {ops:List Oper} {ds:List (Option Tmp)} {g:Nat} {K:St→Prop} {st:St} {o:Oper} {r:List Oper}
theorem aa5 {d:Nat} {e:Operand→D} {κ:Kp} {t el:TypeId} {n k:Nat} {ps:Array (Nat × Operand)} (hd:o.dst=some d) (hop:o.op=.buildSlice t n ps) (he:AM E.P t=some el) (hk:szOf E.P el=some k)
  {rows:List D} (h:EA E.P t n (ps.toList.map fun p=>(p.1,e p.2))=some (.sl true rows)):QOp E g o e κ (.own ⟨g,d,0⟩ rows.length) [(⟨g,d,0⟩,.arr el k rows)]:=by
 unfold EA at h;rw[he] at h;simp only[hk] at h;split at h
 ·rename_i k' z a0 hz;cases a0;split at h
  ·rename_i U;obtain ⟨aa,af,C,a3⟩:=U;cases m:Gg k (List.replicate n (ofV z)) (ps.toList.map fun p=>(p.1,e p.2)) with
   | none=>rw[m] at h; cases h
   | some ai =>
    rw[m] at h;cases h;intro w0 hA G w a q S ho V K Q' R;obtain ⟨z1,z2⟩:=Pa (G:=G) (w:=w) (n:=n) aa;obtain ⟨c,X,I,a1,u⟩:=Iz (G:=G) (w:=w) (k:=k) (ps.toList.map fun p=>(p.1,a.eval p.2)) (ps.toList.map fun p=>(p.1,e p.2)) _ _ rows (by simp) (fun j p _ F H=>by
     simp only[eK,ee] at F H;obtain ⟨y,l,rfl⟩:=F;obtain ⟨y',J,rfl⟩:=H;rw[l] at J;cases J;refine ⟨rfl,S y.2 ?_⟩;simp only[hop,Op.operands,List.mem_toArray,eh];exact ⟨y,ew l,rfl⟩) z1 z2 m
    have a6:(execOp a.eval o).run E.P w=.ok (.value (.slice (some ⟨w.heap.size,0,none⟩) n n)) (w.alloc (.cells c el)):=by
     have N:¬ (n * k > 2 ^ 24):=by omega
     have h0:¬ (n * k=0):=by
      have:=Nat.mul_pos a3 C;omega
     have W : Instr.fill (fun i=>some (i * k,k)) (Array.map (fun x=>z.cells[x % z.cells.size]!) (Array.range (n * k))) (List.map (fun p=>(p.1,a.eval p.2)) ps.toList)=some c:=X;simp only[execOp,hop,Sem.run_bind,Instr.buildSlice,run_underlying (BT he),Result.andThen_ok,Ck hk,N,h0,↓reduceIte,Ee hz,Sem.run_pure,Array.toList_map,W,newRow,run_newObj]
     rfl
    have f:rows.length=n:=by simpa using a1
    obtain ⟨Y,A⟩:=V d hd;have Z:Gr w (w.alloc (.cells c el)) none:=GV w _;have a4:(w.alloc (.cells c el)).heap[w.heap.size]?=some (.cells c el (0,0)):=Dv w _;have ag:(w.alloc (.cells c el)).heap.size=w.heap.size + 1:=World.size_alloc _ _;have s:c.toList.length=rows.length * k:=by simpa using I
    obtain ⟨L,M,O⟩:=Gf q ho (A 0) Y (v:=.slice (some ⟨w.heap.size,0,none⟩) n n) (ob:=.arr el k rows) Z (fun b T=>by simp[blk] at T; omega)
     ⟨c.toList,by
      rw[f];refine ⟨by rw[s,f],.inr ⟨w.heap.size,n,c,rfl,q.below.size,a4,ec _,?_,by rw[I,f],?_⟩⟩
      ·have:n≤n * k:=ia n C;simp only[maxLen];omega
      ·rw[← f,← s,eo],fun i r B=>⟨(u i r B).1,fun j x hx=>by
      obtain ⟨y,l,a8⟩:=(u i r B).2 j x hx;refine ⟨y,by simpa using l,?_⟩;exact a8.upd (A 0) fun b Q=>Dw w _ b (q.lt b Q)⟩⟩
    refine FQ a6 ?_;refine R _ _ _ L ?_ (by rw[CI]; exact M) ?_
    ·rw[f];exact .own (by simp[Gh.upd])
    ·rw[CI];exact O.weaken fun n _ hn=>by subst hn; exact ⟨rfl,hd⟩
  ·cases h
 ·cases h
theorem ZJ {d:Nat} {t el:TypeId} {n k:Nat} {ps:Array (Nat × Operand)} (hds:ops.map (·.dst)=ds) (hw:Cv ds st.env o.guard=some true) (hd:o.dst=some d) (hop:o.op=.buildSlice t n ps) (he:AM E.P t=some el) (hk:szOf E.P el=some k)
  (rows:List D) (hb:EA E.P t n (ps.toList.map fun p=>(p.1,ev E st.env p.2))=some (.sl true rows)) (h:AOps E N ops g K r { env:=(d,.own ⟨g,d,0⟩ rows.length) :: st.env,σ:=(⟨g,d,0⟩,.arr el k rows) :: st.σ }):AOps E N ops g K (o :: r) st:=by
 refine SK (by rw[← Cl hds]; exact hw) (aa5 hd hop he hk hb) ?_;rw[hd];exact h
end
section
variable {E:Ctx} {N:Nat} {Q:Exit→St→Prop} {st:St}
def acP (Q:Exit→St→Prop):Exit→St→Prop
 | .goto _,_=>False
 | e,s=>Q e s
end
end Go.Ab
namespace Go.Proofs.T
open Go Go.Ab Go.RowKit
set_option maxRecDepth 100000 in
theorem TD (L:List Nd) (hL:L.length≤1000000) (x:Nd) (g d:Nat):ACalls E 125 [slNd L,AX x] [] g d (dB (memB x L)) []:=by
 refine Ax 18 Tryz.call125 Tryz.func125 ?_;simp only[go_sem];refine Aa fun _ u=>Ac 2 fun j _=>?_;simp only[go_sem];refine u (Aa fun _ v=>Aa fun _ w=>Ac 1 fun _ _=>?_);simp only[go_sem];refine w (Ai ?_);refine Ay (fun m q=>∃ k,k≤L.length∧m=L.length - k∧memB x (L.take k)=false∧Le { env:=[(0,slNd L),(3,.ptr ⟨j,3,0⟩ 0),(5,dN k)],σ:=[(⟨j,3,0⟩,.box 124 (ndC x)) ] } q) L.length ?_ ?_
 ·refine ⟨0,dX _,rfl,by simp[memB],Ao ?_⟩;simp only[go_sem];all_goals first|trivial|omega
 ·rintro m q ⟨k,K,rfl,h,p⟩;refine Az p ?_;clear p;refine Aa fun _ y=>Aa fun _ l=>?_;by_cases a:k < L.length
  ·have o:=getM (f:=AX) a;have H:=@Rx x L k a;have G:=dP a;generalize L[k]=Y at *;refine Ac 4 fun s D=>?_;simp only[go_sem,a];refine l (Al (Ae (y (Aa fun _ z=>Ai (Aa fun _ n=>?_)))));by_cases b:Y=x
   ·have C:memB x L=true:=Ev.2 (b ▸ G);subst b;refine AE fun t F J r i c=>Ap 6 i ?_;simp only[go_sem,o];refine c (n (Al (Aa fun _ A=>Ac 1 fun _ _=>?_)));simp only[go_sem];refine A (Ah (Ag ?_));simp only[go_sem];exact Co.of_eq (by rw[C])
   ·have I:=ndEq b;refine AE fun t F J r i c=>Ap 6 i ?_;simp only[go_sem,o,I];refine c (n (Aj (Ae (z (Ac 3 fun _ _=>?_)))));simp only[go_sem];try simp (disch:=omega) only[Au]
    refine ⟨_,?_,k + 1,a,rfl,fI.2 fun e=>(H.1 e).elim (fun e=>by rw[h] at e; cases e) b,Ao ?_⟩
    ·omega
    simp only[go_sem];all_goals first|trivial|omega
  ·have:k=L.length:=by omega
   subst this;rw[eo] at h;refine Ac 4 fun s D=>?_;simp only[go_sem,a];refine l (Aj (Aq (v (Aa fun _ B=>Ac 1 fun _ _=>?_))));simp only[go_sem];refine B (Ah (Ag ?_));simp only[go_sem];exact Co.of_eq (by rw[h])
set_option maxRecDepth 100000 in
theorem LA (L:List Nd) (hL:L.length≤1000000) (x:Nd) (q c:Nat) (g d:Nat):ACalls E 125 [.own ⟨q,c,0⟩ L.length,AX x] [(⟨q,c,0⟩,.arr 124 3 (L.map AX))] g d (dB (memB x L)) [(⟨q,c,0⟩,.arr 124 3 (L.map AX))]:=by
 refine Ax 18 Tryz.call125 Tryz.func125 ?_;simp only[go_sem];refine Aa fun _ y=>Ac 2 fun i H=>?_;simp only[go_sem];refine y (Aa fun _ z=>Aa fun _ A=>?_);have a:i≠q:=Ar H c 0 (by simp[go_sem]);refine Ac 1 fun _ _=>?_;simp only[go_sem];refine A (Ai ?_);refine Ay (fun m t=>∃ k,k≤L.length∧m=L.length - k∧memB x (L.take k)=false∧Le { env:=[(0,.own ⟨q,c,0⟩ L.length),(3,.ptr ⟨i,3,0⟩ 0),(5,dN k)],σ:=[(⟨i,3,0⟩,.box 124 (ndC x)) ,(⟨q,c,0⟩,.arr 124 3 (L.map AX))] } t) L.length ?_ ?_
 ·refine ⟨0,dX _,rfl,by simp[memB],Ao ?_⟩;simp only[go_sem,a,a.symm];all_goals first|trivial|omega
 ·rintro m t ⟨k,P,rfl,l,s⟩;refine Az s ?_;clear s;refine Aa fun _ B=>Aa fun _ o=>?_;by_cases b:k < L.length
  ·have r:=getM (f:=AX) b;have M:=@Rx x L k b;have K:=dP b;generalize L[k]=Y at *;refine Ac 4 fun v I=>?_;simp only[go_sem,b];refine o (Al (Ae (B (Aa fun _ C=>Ai (Aa fun _ p=>?_)))));by_cases h:Y=x
   ·have G:memB x L=true:=Ev.2 (h ▸ K);subst h;refine AE fun w J O u n j=>Ap 6 n ?_;simp only[go_sem,b,r,a,a.symm];refine j (p (Al (Aa fun _ D=>Ac 1 fun _ _=>?_)));simp only[go_sem];refine D (Ah ?_);refine HC rfl (by simp[go_sem,a]) ?_;simp only[go_sem];exact Co.of_eq (by rw[G])
   ·have N:=ndEq h;refine AE fun w J O u n j=>Ap 6 n ?_;simp only[go_sem,b,r,N,a,a.symm];refine j (p (Aj (Ae (C (Ac 3 fun _ _=>?_)))));simp only[go_sem];try simp (disch:=omega) only[Au]
    refine ⟨_,?_,k + 1,b,rfl,fI.2 fun e=>(M.1 e).elim (fun e=>by rw[l] at e; cases e) h,Ao ?_⟩
    ·omega
    simp only[go_sem,a,a.symm];all_goals first|trivial|omega
  ·have:k=L.length:=by omega
   subst this;rw[eo] at l;refine Ac 4 fun v I=>?_;simp only[go_sem,b];refine o (Aj (Aq (z (Aa fun _ F=>Ac 1 fun _ _=>?_))));simp only[go_sem];refine F (Ah ?_);refine HC rfl (by simp[go_sem,a]) ?_;simp only[go_sem];exact Co.of_eq (by rw[l])
def Shut19 (l:List Ed) (n:Nd) (R:List Nd):Prop:=∀ e∈l,(e.frm=n∨e.frm∈R)→e.to∈R
structure Rs (l:List Ed) (n:Nd) (R:List Nd):Prop where
 nodup:R.Nodup
 rch:∀ x∈R,Rch l n x
theorem Rs.len {l:List Ed} {n:Nd} {R:List Nd} (h:Rs l n R):R.length≤l.length:=by
 have:=Jo R (l.map (·.to)) h.nodup fun x c=>by
  obtain ⟨e,b,a⟩:=(h.rch x c).target;exact eh.2 ⟨e,b,a⟩
 simpa using this
theorem Rs.nil (l:List Ed) (n:Nd):Rs l n []:=⟨iu,fun _ h=>nomatch h⟩
theorem Rs.add {l:List Ed} {n:Nd} {R:List Nd} (h:Rs l n R) {e:Ed} (he:e∈l) (hf:e.frm=n∨e.frm∈R) (hn:e.to∉R):Rs l n (R++[e.to]):=by
 refine ⟨?_,fun x a=>?_⟩
 ·rw[gc];refine ⟨h.nodup,by simp,fun _ b _ c=>?_⟩;rw[eg.1 c];rintro rfl;exact hn b
 ·rcases eu.1 a with a | a
  ·exact h.rch x a
  ·rw[eg.1 a];rcases hf with hf | hf
   ·exact .one he hf
   ·exact .more (h.rch _ hf) he
theorem Rs.all {l:List Ed} {n:Nd} {R:List Nd} (h:Rs l n R) (hs:Shut19 l n R) (x:Nd):x∈R↔Rch l n x:=by
 refine ⟨h.rch x,fun c=>?_⟩;induction c with
 | one b a=>exact hs _ b (.inl a)
 | more _ a ih=>exact hs _ a (.inr ih)
open Classical in
noncomputable def Ct (n:Nd) (R:List Nd) (e:Ed):List Nd:=if (e.frm=n∨memB e.frm R=true)∧memB e.to R=false then R++[e.to] else R
noncomputable def Hu (l:List Ed) (n:Nd) (R:List Nd):List Nd:=l.foldl (Ct n) R
theorem Ya {l:List Ed} {n:Nd} {R:List Nd} (h:Rs l n R) {e:Ed} (he:e∈l):Rs l n (Ct n R e):=by
 unfold Ct;split
 ·rename_i a;exact h.add he (a.1.imp id Ev.1) fun b=>by rw[Ev.2 b] at a; cases a.2
 ·exact h
theorem Ld {l:List Ed} {n:Nd}:∀ (m:List Ed) (R:List Nd),(∀ e∈m,e∈l)→Rs l n R→Rs l n (m.foldl (Ct n) R)
 | [],_,_,h=>h
 | e :: m,_,hm,h=>Ld m _ (fun x hx=>hm x (ea _ hx)) (Ya h (hm e dY))
theorem PM (n:Nd) (R:List Nd) (e:Ed):R.length≤(Ct n R e).length:=by
 unfold Ct;split <;> simp
theorem Jp (n:Nd):∀ (m:List Ed) (R:List Nd),R.length≤(m.foldl (Ct n) R).length
 | [],_=>ec _
 | e :: m,R=>ef (PM n R e) (Jp n m _)
theorem Ig (n:Nd):∀ (m:List Ed) (R:List Nd),(m.foldl (Ct n) R).length=R.length→m.foldl (Ct n) R=R∧Shut19 m n R
 | [],R,_=>⟨rfl,fun e he=>nomatch he⟩
 | e :: m,R,h=>by
  rw[fz] at h ⊢;have h1:=Jp n m (Ct n R e);have h2:=PM n R e;have h3:Ct n R e=R:=by
   unfold Ct at h h1 h2 ⊢;split
   ·rename_i a;rw[if_pos a] at h h1 h2;rw[dQ,gM] at h1;omega
   ·rfl
  rw[h3] at h ⊢;obtain ⟨d,f⟩:=Ig n m R h;refine ⟨d,fun x b c=>?_⟩;rcases eq.1 b with rfl | b
  ·unfold Ct at h3;by_cases a:(x.frm=n∨memB x.frm R=true)∧memB x.to R=false
   ·rw[if_pos a] at h3;have:=congrArg List.length h3;simp at this
   ·have g:memB x.to R≠false:=fun i=>a ⟨c.imp id Ev.2,i⟩;exact Ev.1 (by simpa using g)
  ·exact f x b c
theorem Shut19.iff {l:List Ed} {n:Nd} {R:List Nd} (hr:Rs l n R) (h:Hu l n R=R):∀ x,x∈R↔Rch l n x :=
 hr.all (Ig n l R (by unfold Hu at h; rw[h])).2
noncomputable def HI (l:List Ed) (n:Nd):Nat→List Nd→List Nd
 | 0,R=>R
 | f + 1,R=>if (Hu l n R).length=R.length then R else HI l n f (Hu l n R)
noncomputable def IX (l:List Ed) (n:Nd):List Nd:=HI l n (l.length + 1) []
theorem JK {l:List Ed} {n:Nd}:∀ (f:Nat) (R:List Nd),Rs l n R→l.length < f + R.length→Rs l n (HI l n f R)∧Shut19 l n (HI l n f R)
 | 0,R,h,hf=>by have:=h.len; omega
 | f + 1,R,h,hf=>by
  unfold HI;split
  ·rename_i he;exact ⟨h,(Ig n l R he).2⟩
  ·rename_i he;have:=Jp n l R;exact JK f _ (Ld l R (fun _ h=>h) h) (by unfold Hu at he ⊢; omega)
theorem WA (l:List Ed) (n x:Nd):x∈IX l n↔Rch l n x :=
 let h:=JK (l.length + 1) [] (Rs.nil l n) (by simp)
 h.1.all h.2 x
theorem WB (l:List Ed) (n:Nd):(IX l n).length≤l.length:=(JK (l.length + 1) [] (Rs.nil l n) (by simp)).1.len
set_option maxHeartbeats 1000000 in
set_option maxRecDepth 100000 in
theorem Qx (l:List Ed) (hl:l.length≤1000000) (n:Nd) (g d:Nat):ACalls E 126 [slEd l,AX n] [] g d (slNd (IX l n)) []:=by
 refine Ax 55 Tryz.call126 Tryz.func126 ?_;simp only[go_sem];refine Aa fun _ af=>Ac 2 fun u _=>?_;simp only[go_sem];refine af (Aa fun _ ah=>Ac 1 fun _ _=>?_);simp only[go_sem];refine ah (Aa fun _ ai=>Aa fun _ aj=>Ac 1 fun _ _=>?_);simp only[go_sem];refine aj (Ai ?_);refine Bh 5 124 3 rfl fun gn au=>?_;have hn:gn≠u:=Ar au 3 0 (by simp[go_sem]);refine Ay (fun m O=>∃ (a i:Nat) (R:List Nd) (c:Int),a≠u∧Rs l n R∧(c=R.length→R=IX l n)∧(c≠R.length→∃ f,l.length < f + R.length∧HI l n f R=IX l n)∧-1≤c∧c≤1000000∧m=(if c=R.length then 0 else l.length + 1 - R.length) ∧
   Le { env:=[(0,slEd l),(3,.ptr ⟨u,3,0⟩ 0),(5,.own ⟨a,i,0⟩ R.length),(6,dI c)],σ:=[(⟨u,3,0⟩,.box 124 (ndC n)),(⟨a,i,0⟩,.arr 124 3 (R.map AX))] } O) (l.length + 1) ?_ ?_
 ·refine ⟨gn,0,[],-1,hn,Rs.nil l n,by simp,fun _=>⟨l.length + 1,by simp,rfl⟩,by omega,by omega,by simp,Ao ?_⟩;simp only[go_sem,hn,hn.symm];all_goals first|trivial|omega
 ·rintro m O ⟨a,i,R,c,b,hR,a9,aa,ax,ay,rfl,M⟩;refine Az M ?_;clear M;have aw:=hR.len;refine Aa fun _ ak=>Aa fun _ a8=>?_;by_cases I:c=(R.length:Int)
  ·have ao:=a9 I;refine Ac 4 fun g3 aq=>?_;simp only[go_sem,I];refine a8 (Aj (Aq (ai (Aa fun _ al=>Ac 2 fun _ _=>?_))));simp only[go_sem];refine al (Ah ?_);refine AY ⟨a,i,0⟩ ?_;simp only[go_sem,b.symm];refine Ag ?_;simp only[go_sem];exact Co.of_eq (by rw[← ao])
  ·obtain ⟨f,hf,C⟩:=aa I;rw[if_neg I];clear a9 aa;refine Ac 4 fun g3 aq=>?_;simp only[go_sem,I];refine a8 (Al (Ae (ak (Ai (Aa fun _ am=>Ac 3 fun _ _=>?_)))));simp only[go_sem];refine am (Aa fun _ an=>Ac 1 fun _ _=>?_);simp only[go_sem];refine an (Ai ?_);refine Ay (fun m O=>∃ (k a i:Nat) (S:List Nd),k≤l.length∧m=l.length - k∧a≠u∧S=(l.take k).foldl (Ct n) R ∧
     Le { env:=[(0,slEd l),(3,.ptr ⟨u,3,0⟩ 0),(5,.own ⟨a,i,0⟩ S.length),(6,dN R.length),(7,dN k)],σ:=[(⟨u,3,0⟩,.box 124 (ndC n)),(⟨a,i,0⟩,.arr 124 3 (S.map AX))] } O) l.length ?_ ?_
   ·refine ⟨0,a,i,R,dX _,rfl,b,rfl,Ao ?_⟩;simp only[go_sem,b,b.symm];all_goals first|trivial|omega
   ·rintro m O ⟨k,a,i,S,hk,rfl,b,r,M⟩;refine Az M ?_;clear M;refine Aa fun _ ag=>Aa fun _ a7=>?_;by_cases q:k < l.length
    ·have s:=getM (f:=FI) q;have aA:=dP q;have t:(l.take (k + 1)).foldl (Ct n) R=Ct n S l[k]:=by rw[ZF _ _ q,← r]
     have T:Rs l n S:=r ▸ Ld _ R (fun e J=>ff J) hR;have ap:=T.len;generalize l[k]=X at *;refine Ac 4 fun g6 ar=>?_;simp only[go_sem,q];refine a7 (Al (Ae (ag (Aa fun _ A=>Ai (Aa fun _ B=>?_)))));have P:=fun g d=>LA S (by omega) X.frm a i g d;have Q:=fun g d=>LA S (by omega) X.to a i g d;cases w:memB X.to S with
     | true =>
      have a3:Ct n S X=S:=by
       unfold Ct;rw[if_neg (fun h=>by rw[w] at h; cases h.2)]
      rw[a3] at t;by_cases o:X.frm=n
      ·have V:=congrArg Nd.method o;have W:=congrArg Nd.name o;have Y:=congrArg Nd.idx o;refine AE fun G L N D j p=>Av 23 j ?_;simp only[go_sem,s,V,W,Y,b];refine Ek (nw:=[]) (σs:=[(⟨a,i,0⟩,.arr 124 3 (S.map AX))]) j rfl rfl rfl (Q _ _) (CoL.refl _) (by simp[go_sem,b.symm]) rfl ?_;refine Ap 2 j ?_;simp only[go_sem,w];refine p (B (Aj (Ae (A (Ac 3 fun F K=>?_)))));simp only[go_sem];try simp (disch:=omega) only[Au]
       refine ⟨_,?_,k + 1,a,i,S,q,rfl,b,t.symm,Ao ?_⟩
       ·omega
       simp only[go_sem,b,b.symm];all_goals first|trivial|omega
      ·cases v:memB X.frm S with
       | true =>
        have y:=ndEq o;refine AE fun G L N D j p=>Av 14 j ?_;simp only[go_sem,s,y,b];refine Ek (nw:=[]) (σs:=[(⟨a,i,0⟩,.arr 124 3 (S.map AX))]) j rfl rfl rfl (P _ _) (CoL.refl _) (by simp[go_sem,b.symm]) rfl ?_;refine Av 8 j ?_;simp only[go_sem,s,v];refine Ek (nw:=[]) (σs:=[(⟨a,i,0⟩,.arr 124 3 (S.map AX))]) j rfl rfl rfl (Q _ _) (CoL.refl _) (by simp[go_sem,b.symm]) rfl ?_;refine Ap 2 j ?_;simp only[go_sem,w];refine p (B (Aj (Ae (A (Ac 3 fun F K=>?_)))));simp only[go_sem];try simp (disch:=omega) only[Au]
        refine ⟨_,?_,k + 1,a,i,S,q,rfl,b,t.symm,Ao ?_⟩
        ·omega
        simp only[go_sem,b,b.symm];all_goals first|trivial|omega
       | false =>
        have y:=ndEq o;refine AE fun G L N D j p=>Av 14 j ?_;simp only[go_sem,s,y,b];refine Ek (nw:=[]) (σs:=[(⟨a,i,0⟩,.arr 124 3 (S.map AX))]) j rfl rfl rfl (P _ _) (CoL.refl _) (by simp[go_sem,b.symm]) rfl ?_;refine Ap 11 j ?_;simp only[go_sem,v];refine p (B (Aj (Ae (A (Ac 3 fun F K=>?_)))));simp only[go_sem];try simp (disch:=omega) only[Au]
        refine ⟨_,?_,k + 1,a,i,S,q,rfl,b,t.symm,Ao ?_⟩
        ·omega
        simp only[go_sem,b,b.symm];all_goals first|trivial|omega
     | false =>
      by_cases o:X.frm=n
      ·have a4:Ct n S X=S++[X.to]:=by
        unfold Ct;rw[if_pos ⟨.inl o,w⟩]
       rw[a4] at t;have V:=congrArg Nd.method o;have W:=congrArg Nd.name o;have Y:=congrArg Nd.idx o;refine AE fun G L N D j p=>Av 23 j ?_;simp only[go_sem,s,V,W,Y,b];refine Ek (nw:=[]) (σs:=[(⟨a,i,0⟩,.arr 124 3 (S.map AX))]) j rfl rfl rfl (Q _ _) (CoL.refl _) (by simp[go_sem,b.symm]) rfl ?_;refine Ap 2 j ?_;simp only[go_sem,w];refine p (B (Al (Am fun H a1 av ac z Z=>Af 7 z ?_)));simp only[go_sem,s];refine AG z rfl rfl rfl rfl rfl es167 sz124 by124 ze124 rfl (by decide) ?_;simp only[go_sem,b.symm];first | refine ⟨⟨by omega,by omega⟩,?_⟩ | skip
       have x:H≠u:=Ar a1 3 0 (by simp[go_sem]);refine Ad 1 z ?_;simp only[go_sem];refine Z (A (Ac 3 fun F K=>?_));simp only[go_sem];try simp (disch:=omega) only[Au]
       refine ⟨_,?_,k + 1,H,53,S++[X.to],q,rfl,x,t.symm,Ao ?_⟩
       ·omega
       simp only[go_sem,x,x.symm];all_goals first|trivial|omega
      ·cases v:memB X.frm S with
       | true =>
        have a4:Ct n S X=S++[X.to]:=by
         unfold Ct;rw[if_pos ⟨.inr v,w⟩]
        rw[a4] at t;have y:=ndEq o;refine AE fun G L N D j p=>Av 14 j ?_;simp only[go_sem,s,y,b];refine Ek (nw:=[]) (σs:=[(⟨a,i,0⟩,.arr 124 3 (S.map AX))]) j rfl rfl rfl (P _ _) (CoL.refl _) (by simp[go_sem,b.symm]) rfl ?_;refine Av 8 j ?_;simp only[go_sem,s,v];refine Ek (nw:=[]) (σs:=[(⟨a,i,0⟩,.arr 124 3 (S.map AX))]) j rfl rfl rfl (Q _ _) (CoL.refl _) (by simp[go_sem,b.symm]) rfl ?_;refine Ap 2 j ?_;simp only[go_sem,w];refine p (B (Al (Am fun H a1 av ac z Z=>Af 7 z ?_)));simp only[go_sem,s];refine AG z rfl rfl rfl rfl rfl es167 sz124 by124 ze124 rfl (by decide) ?_
        simp only[go_sem,b.symm];first | refine ⟨⟨by omega,by omega⟩,?_⟩ | skip
        have x:H≠u:=Ar a1 3 0 (by simp[go_sem]);refine Ad 1 z ?_;simp only[go_sem];refine Z (A (Ac 3 fun F K=>?_));simp only[go_sem];try simp (disch:=omega) only[Au]
        refine ⟨_,?_,k + 1,H,53,S++[X.to],q,rfl,x,t.symm,Ao ?_⟩
        ·omega
        simp only[go_sem,x,x.symm];all_goals first|trivial|omega
       | false =>
        have a3:Ct n S X=S:=by
         unfold Ct;rw[if_neg (fun h=>h.1.elim o fun h=>by rw[v] at h; cases h)]
        rw[a3] at t;have y:=ndEq o;refine AE fun G L N D j p=>Av 14 j ?_;simp only[go_sem,s,y,b];refine Ek (nw:=[]) (σs:=[(⟨a,i,0⟩,.arr 124 3 (S.map AX))]) j rfl rfl rfl (P _ _) (CoL.refl _) (by simp[go_sem,b.symm]) rfl ?_;refine Ap 11 j ?_;simp only[go_sem,v];refine p (B (Aj (Ae (A (Ac 3 fun F K=>?_)))));simp only[go_sem];try simp (disch:=omega) only[Au]
        refine ⟨_,?_,k + 1,a,i,S,q,rfl,b,t.symm,Ao ?_⟩
        ·omega
        simp only[go_sem,b,b.symm];all_goals first|trivial|omega
    ·have:k=l.length:=by omega
     subst this;rw[eo] at r;change S=Hu l n R at r;have T:Rs l n S:=r ▸ Ld _ R (fun e J=>J) hR;have ap:=T.len;have ab:=Jp n l R;change R.length≤(Hu l n R).length at ab;rw[← r] at ab;refine Ac 4 fun g6 ar=>?_;simp only[go_sem,q];refine a7 (Aj (Aq ?_));refine ⟨_,?_,a,i,S,(R.length:Int),b,T,fun J=>?_,fun J=>?_,by omega,by omega,rfl,Ao ?_⟩
     ·split <;> omega
     ·have U : (Hu l n R).length=R.length:=by rw[← r]; omega
      have h1:=(Ig n l R U).1;change Hu l n R=R at h1;cases f with
      | zero=>omega
      | succ f =>
       unfold HI at C;rw[if_pos U] at C;rw[r,h1,C]
     ·have U : ¬ (Hu l n R).length=R.length:=by rw[← r]; omega
      cases f with
      | zero=>omega
      | succ f =>
       unfold HI at C;rw[if_neg U,← r] at C;exact ⟨f,by omega,C⟩
     simp only[go_sem,b,b.symm];all_goals first|trivial|omega
open Classical in
noncomputable def scan1 (x:Nd) (es:Ms) (e:Ed):Ms:=if e.frm=x∧aae es e.to=none then es++[(e.to,e)] else es
noncomputable def ab6 (l:List Ed) (x:Nd) (es:Ms):Ms:=l.foldl (scan1 x) es
noncomputable def bfsK (l:List Ed) (n:Nd):Nat→Ms→Nat→Ms
 | 0,es,_=>es
 | f + 1,es,k=>match (allN n es)[k]? with | none=>es | some x=>bfsK l n f (ab6 l x es) (k + 1)
noncomputable def bfsF (l:List Ed) (n:Nd):Ms:=bfsK l n (l.length + 2) [] 0
theorem Clo.pre {l:List Ed} {x:Nd} {es:Ms} (h:Clo l x es) (t:Ms):Clo l x (es++t):=fun e he hf=>by
 have:=h e he hf;unfold F5 at *;rw[eC];exact eI _ this
def ac6 (l:List Nd) (i:List Nat) (x:D) (j:List Nat):Prop:=∃ n e,l[n]?=some e∧n∉i∧x=AX e∧j=i++[n]
def finN (l:List Nd) (i:List Nat):Prop:=∀ n,n < l.length→n∈i
def okNn (l:List Nd) (i:List Nat):Prop:=i.Nodup∧∀ n∈i,n < l.length
def ndsK (l:List Nd) (i:List Nat):List Nd:=i.map fun n=>l.getD n default
def ac7 (l:List Nd) (g d:Nat) (r:D) (τ:Sto):Prop:=∃ L:List Nd,L.Perm l∧r=.own ⟨g,d,1⟩ L.length∧τ=[(⟨g,d,1⟩,.arr 139 3 (L.map AX))]
abbrev apN (q a b:Nat) (L:List Nd):Sto:=[(⟨q,2,0⟩,.box 96 [.own ⟨a,b,0⟩ L.length]),(⟨a,b,0⟩,.arr 139 3 (L.map AX))]
end Go.Proofs.T
namespace Go.Ab
open Go Go.RowKit
section
variable {E:Ctx} {ops:List Oper} {M:List Nat} {ds:List (Option Tmp)} {g i:Nat} {σ0:Sto} {K:St→Prop} {st:St}
end
end Go.Ab
namespace Go.Proofs.T
open Go Go.Ab Go.RowKit
open Classical in
noncomputable def eqN (a b:Nd):Bool:=decide (a=b)
theorem Qy {a b:Nd}:eqN a b=true↔a=b:=by unfold eqN; simp
noncomputable def PN (l:List Ed) (a b:Nd):Bool:=memB b (IX l a)
theorem Yb {l:List Ed} {a b:Nd}:PN l a b=true↔Rch l a b:=by unfold PN; rw[Ev,WA]
noncomputable def exB (l:List Ed) (e:Ed):Bool:=e.ins && (PN l e.to e.frm || eqN e.to e.frm)
noncomputable def exL (l:List Ed):List Ed:=l.filter (exB l)
theorem Qz (l:List Ed) (hl:l.length≤1000000) (a b:Nd) (g d:Nat):ACalls E 84 [slEd l,AX a,AX b] [] g d (dB (PN l a b)) []:=by
 have i:=WB l a;refine Ax 12 Tryz.call84 Tryz.func84 ?_;simp only[go_sem];refine Aa fun _ e=>Ac 3 fun _ _=>?_;simp only[go_sem];refine e (Aa fun _ f=>AF 5 fun _ _ _ _ c h=>Av 2 c ?_);simp only[go_sem];refine Aw c (Qx l hl a _ _) ?_;refine Av 1 c ?_;simp only[go_sem];refine AI c rfl rfl rfl (TD (IX l a) (by omega) b _ _) (CoL.refl _) rfl ?_;refine Ap 0 c ?_;simp only[go_sem];refine Ad 1 c ?_;simp only[go_sem];refine h (f (Ah (Ag ?_)));simp only[go_sem];exact Co.refl _
theorem WC (f:Ed→Bool) {l:List Ed} {k:Nat} (h:k < l.length):(l.take (k + 1)).filter f=(l.take k).filter f++(if f l[k]=true then [l[k]] else []):=by
 rw[ep,dO h,List.filter_append,gh]
 congr 1
 simp only[List.filter_cons,List.filter_nil]
set_option maxHeartbeats 1000000 in
set_option maxRecDepth 100000 in
theorem Mv (l:List Ed) (hl:l.length≤1000000) (g d:Nat):ACalls E 40 [slEd l] [] g d (slEd (exL l)) []:=by
 refine Ax 51 Tryz.call40 Tryz.func40 ?_;simp only[go_sem];refine Aa fun _ P=>Ac 1 fun _ _=>?_;simp only[go_sem];refine P (Aa fun _ Q=>Ac 1 fun _ _=>?_);simp only[go_sem];refine Q (Aa fun _ R=>Aa fun _ T=>Ac 1 fun _ _=>?_);simp only[go_sem];refine T (Ai ?_);refine Bh 3 126 7 rfl fun O _=>?_;refine Ay (fun m L=>∃ k a i,k≤l.length∧m=l.length - k∧Le { env:=[(0,slEd l),(3,.own ⟨a,i,0⟩ ((l.take k).filter (exB l)).length),(4,dN k)],σ:=[(⟨a,i,0⟩,.arr 126 7 (((l.take k).filter (exB l)).map FI))] } L) l.length ?_ ?_
 ·refine ⟨0,O,0,dX _,rfl,Ao ?_⟩;simp only[go_sem,List.filter_nil];all_goals first|trivial|omega
 ·rintro m L ⟨k,a,i,hk,rfl,D⟩;refine Az D ?_;clear D;refine Aa fun _ U=>Aa fun _ I=>?_;by_cases e:k < l.length
  ·have o:=getM (f:=FI) e;have u:=WC (exB l) e;have D:((l.take k).filter (exB l)).length≤1000000:=ef (ie _ _) (by rw[eD]; omega);have J:=fun g r=>Qz l hl (l[k].to) (l[k].frm) g r;generalize l[k]=X at *;generalize hS:(l.take k).filter (exB l)=S at *;obtain ⟨f,t,b⟩:=X;refine Ac 4 fun N W=>?_;simp only[go_sem,e];refine I (Al (Ae (U (Aa fun _ p=>Ai (Aa fun _ q=>?_)))));cases b with
   | false =>
    have F:exB l ⟨f,t,false⟩=false:=by simp[exB]
    refine AE fun x C H v c j=>Ap 32 c ?_;simp only[go_sem,o];refine j (q (Aj (Ae (p (Ac 3 fun w B=>?_)))));simp only[go_sem];try simp (disch:=omega) only[Au]
    refine ⟨_,?_,k + 1,a,i,e,rfl,Ao ?_⟩
    ·omega
    rw[u,if_neg (by rw[F]; exact Bool.false_ne_true),fe];simp only[go_sem];all_goals first|trivial|omega
   | true =>
    by_cases A:t=f
    ·subst A;have G:exB l ⟨t,t,true⟩=true:=by simp[exB,Qy.2]
     refine AE fun x C H v c j=>Ap 32 c ?_;simp only[go_sem,o];refine j (q (Al (Am fun y Y a0 M n z=>Af 6 n ?_)));simp only[go_sem,o];refine AG n rfl rfl rfl rfl rfl es73 sz126 by126 ze126 rfl (by decide) ?_;simp only[go_sem];first | refine ⟨⟨by omega,by omega⟩,?_⟩ | skip
     refine Ad 1 n ?_;simp only[go_sem];refine z (p (Ac 3 fun w B=>?_));simp only[go_sem];try simp (disch:=omega) only[Au]
     refine ⟨_,?_,k + 1,y,49,e,rfl,Ao ?_⟩
     ·omega
     rw[u,if_pos G];simp only[go_sem];all_goals first|trivial|omega
    ·have Z:eqN t f=false:=fI.2 fun h=>A (Qy.1 h);have K:=ndEq A;cases s:PN l t f with
     | true =>
      have G:exB l ⟨f,t,true⟩=true:=by simp[exB,s]
      refine AE fun x C H v c j=>Av 29 c ?_;simp only[go_sem,o,K];refine Aw c (J _ _) ?_;refine Ap 2 c ?_;simp only[go_sem,s];refine j (q (Al (Am fun y Y a0 M n z=>Af 6 n ?_)));simp only[go_sem,o];refine AG n rfl rfl rfl rfl rfl es73 sz126 by126 ze126 rfl (by decide) ?_;simp only[go_sem];first | refine ⟨⟨by omega,by omega⟩,?_⟩ | skip
      refine Ad 1 n ?_;simp only[go_sem];refine z (p (Ac 3 fun w B=>?_));simp only[go_sem];try simp (disch:=omega) only[Au]
      refine ⟨_,?_,k + 1,y,49,e,rfl,Ao ?_⟩
      ·omega
      rw[u,if_pos G];simp only[go_sem];all_goals first|trivial|omega
     | false =>
      have F:exB l ⟨f,t,true⟩=false:=by simp[exB,s,Z]
      refine AE fun x C H v c j=>Av 29 c ?_;simp only[go_sem,o,K];refine Aw c (J _ _) ?_;refine Ap 2 c ?_;simp only[go_sem,s];refine j (q (Aj (Ae (p (Ac 3 fun w B=>?_)))));simp only[go_sem];try simp (disch:=omega) only[Au]
      refine ⟨_,?_,k + 1,a,i,e,rfl,Ao ?_⟩
      ·omega
      rw[u,if_neg (by rw[F]; exact Bool.false_ne_true),fe];simp only[go_sem];all_goals first|trivial|omega
  ·have:k=l.length:=by omega
   subst this;rw[eo];refine Ac 4 fun N W=>?_;simp only[go_sem,e];refine I (Aj (Aq (R (Aa fun _ V=>Ac 2 fun _ _=>?_))));simp only[go_sem];refine V (Ah ?_);refine AY ⟨a,i,0⟩ ?_;simp only[go_sem];refine Ag ?_;simp only[go_sem];exact Co.of_eq (by rw[exL])
def idxI (f:Ed→Bool) (l:List Ed):Int:=match l.findIdx? f with | some i=>(i:Int) | none=>-1
variable {f:Ed→Bool} {fn:FuncId} {cap:List D}
open Classical in
noncomputable def eqE (a b:Ed):Bool:=decide (a=b)
variable {f:Ed→Bool} {fn:FuncId} {cap:List D}
noncomputable abbrev edP (p:Prg):List Ed:=setE (prE p)
theorem aa6 {p:Prg} (h:(prE p).length≤1000000):(edP p).length≤1000000:=ef (ZI _) h
noncomputable def ab7 (bad:List Ed):List Dec→Option Int
 | []=>none
 | d :: r=>if (stE d).any (fun e=>bad.any (eqE e))=true then some d.pos else ab7 bad r
theorem abE {p:Prg} (hp:smPr p) (hr:BY p=true) (hw:wN (Bx p)≤600):∀ g d,ACalls E 41 [AZ p] [] g d (slEd (edP p)) []:=by
 have a:=Qw p hp (by rw[TC hr]; exact VC hw) (aa2 hw);rw[TC hr] at a;exact a
theorem NQ (p:Prg) (hp:smPr p) (hr:BY p=true) (hw:wN (Bx p)≤600) (g d:Nat):ACalls E 20 [AZ p] [] g d (dB (decide ((exL (edP p)).length=0))) []:=by
 have f:=abE hp hr hw;have h:=aa6 (VC hw);have i:=fun g d=>Mv (edP p) h g d;generalize exL (edP p)=B at *;refine Ax 8 Tryz.call20 Tryz.func20 ?_;simp only[go_sem];refine Aa fun _ b=>Ac 2 fun _ _=>?_;simp only[go_sem];refine b (Aa fun _ c=>Am fun _ _ _ _ a e=>Af 1 a ?_);simp only[go_sem];refine Ak a (f _ _) ?_;refine Ak a (i _ _) ?_;refine Ad 3 a ?_;simp only[go_sem];refine e (c (Ah (Ag ?_)));simp only[go_sem];exact Co.of_eq (by simp[dB])
end Go.Proofs.T
