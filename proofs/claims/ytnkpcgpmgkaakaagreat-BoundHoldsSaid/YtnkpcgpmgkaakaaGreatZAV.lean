/- A part of the proof: ZAV. -/
import Derived.Test.YtnkpcgpmgkaakaaGreatZAU
namespace Go.Proofs.T
open Go Go.Ab Go.RowKit
structure Cal where
 on:Ty
 name:Str
 targs:List Ty
def calC (c:Cal):List D:=[.val (.string c.on.name),.sl false (c.on.args.map AC),.val (.int .i64 c.on.pos),.val (.string c.name),.sl false (c.targs.map AC)]
def E8 (c:Cal):D:=.agg (calC c)
theorem TO (c:Cal):(E8 c).cells=calC c:=rfl
structure ISet where
 types:List Ty
 calls:List Cal
 large:Bool
def aaf (l:List Cal):D:=.sl false (l.map E8)
def isC (s:ISet):List D:=[slTy s.types,aaf s.calls,dB s.large]
def Ey (s:ISet):D:=.agg (isC s)
theorem U3 (s:ISet):(Ey s).cells=isC s:=rfl
attribute [go_sem] TO E8 calC U3 Ey isC aaf
def Hw (c:Cal):Prop:=smTy c.on∧c.name.size≤1000000∧c.targs.length≤1000000∧∀ t∈c.targs,smTy t
def smIS (s:ISet):Prop:=(s.types.length≤1000000∧∀ t∈s.types,smTy t)∧s.calls.length≤1000000∧∀ c∈s.calls,Hw c
noncomputable def D8 (a b:Cal):Int:=if BK a.on b.on=0 then (if cmpS a.name b.name=0 then BK (.mk ByteArray.empty a.targs 0) (.mk ByteArray.empty b.targs 0) else cmpS a.name b.name) else BK a.on b.on
set_option maxRecDepth 100000 in
theorem U4 (a b:Cal) (ha:Hw a) (g d:Nat):ACalls E 87 [E8 a,E8 b] [] g d (dI (D8 a b)) []:=by
 have m:=En a.on ha.1.ok b.on;have n:=BZ a.name b.name (by have:=ha.2.1; omega);have v:=En (.mk ByteArray.empty a.targs 0) (smTy.ok _ ((Bi _).2 ⟨by simp,ha.2.2.1,ha.2.2.2⟩)) (.mk ByteArray.empty b.targs 0);have c:D8 a b=if BK a.on b.on=0 then (if cmpS a.name b.name=0 then BK (.mk ByteArray.empty a.targs 0) (.mk ByteArray.empty b.targs 0) else cmpS a.name b.name) else BK a.on b.on:=rfl
 refine Ax 28 Tryz.call87 Tryz.func87 ?_;simp only[go_sem];refine Aa fun _ w=>Ac 3 fun _ _=>?_;simp only[go_sem];refine w (Aa fun _ o=>Am fun _ _ _ _ e q=>Af 4 e ?_);simp only[go_sem];by_cases h:BK a.on b.on=0
 ·rw[if_pos h] at c;refine Ak e (m _ _) ?_;refine Ad 1 e ?_;simp only[go_sem];refine q (o (Aa fun _ p=>Aa fun _ D=>Ac 2 fun u L=>?_));simp only[go_sem,h];refine D (Al (Am fun _ _ _ _ f r=>Af 4 f ?_));simp only[go_sem];by_cases i:cmpS a.name b.name=0
  ·rw[if_pos i] at c;refine Ak f (n _ _) ?_;refine Ad 1 f ?_;simp only[go_sem];refine r (p (Aa fun _ F=>Aa fun _ G=>Ac 2 fun k s=>?_));simp only[go_sem,i];refine G (Al (Am fun _ _ _ _ j K=>Af 6 j ?_));simp only[go_sem];refine Ak j (v _ _) ?_;refine Ad 1 j ?_;simp only[go_sem];refine K (F (Aa fun _ H=>Ac 2 fun l t=>?_));simp only[go_sem];refine H (Ah ?_);rw[c];refine Ag ?_;simp only[go_sem];exact Co.refl _
  ·rw[if_neg i] at c;refine Ak f (n _ _) ?_;refine Ad 1 f ?_;simp only[go_sem];refine r (p (Aa fun _ I=>Aa fun _ J=>Ac 2 fun k s=>?_));simp only[go_sem,i];refine J (Aj (Ae (I (Aa fun _ x=>Ac 2 fun l t=>?_))));simp only[go_sem];refine x (Ah ?_);rw[c];refine Ag ?_;simp only[go_sem];exact Co.refl _
 ·rw[if_neg h] at c;refine Ak e (m _ _) ?_;refine Ad 1 e ?_;simp only[go_sem];refine q (o (Aa fun _ y=>Aa fun _ z=>Ac 2 fun u L=>?_));simp only[go_sem,h];refine z (Aj (Ae (y (Aa fun _ A=>Aa fun _ B=>Ac 2 fun k s=>?_))));simp only[go_sem,h];refine B (Aj (Ae (A (Aa fun _ C=>Ac 2 fun l t=>?_))));simp only[go_sem];refine C (Ah ?_);rw[c];refine Ag ?_;simp only[go_sem];exact Co.refl _
noncomputable def CB {α:Type} (cmp:α→α→Int) (x:α):Bool→List α→Option (List α)
 | done,[]=>some (if done=true then [] else [x])
 | done,y :: r=>if cmp x y=0 then none else if cmp x y < 0∧done=false then (CB cmp x true r).map (fun l=>[x,y]++l) else (CB cmp x done r).map (fun l=>[y]++l)
noncomputable def putG {α:Type} (cmp:α→α→Int) (l:List α) (x:α):List α:=(CB cmp x false l).getD l
theorem PW {α:Type} {cmp:α→α→Int} {x:α} {l:List α} {k:Nat} (h:k < l.length) (done:Bool):CB cmp x done (l.drop k)=if cmp x l[k]=0 then none else if cmp x l[k] < 0∧done=false then (CB cmp x true (l.drop (k + 1))).map (fun m=>[x,l[k]]++m) else (CB cmp x done (l.drop (k + 1))).map (fun m=>[l[k]]++m):=by
 rw[ek h,CB]
theorem Kj {α:Type} (o:Option (List α)) (a b:List α):(o.map (fun m=>b++m)).map (fun m=>a++m)=o.map (fun m=>(a++b)++m):=by
 cases o <;> simp
noncomputable def putT (s:ISet) (x:Ty):ISet:=if 100 < s.types.length then { s with large:=true } else { s with types:=putG BK s.types x }
noncomputable def putC (s:ISet) (x:Cal):ISet:=if 100 < s.calls.length then { s with large:=true } else { s with calls:=putG D8 s.calls x }
set_option maxRecDepth 100000 in
set_option maxHeartbeats 2000000 in
theorem E5 (s:ISet) (hs:s.types.length≤1000000) (x:Ty) (hx:smTy x) (g d:Nat):ACalls E 42 [Ey s,AC x] [] g d (Ey (putT s x)) []:=by
 have ar:=fun Y=>En x hx.ok Y;have aG:s.types.length≤1000000:=hs;refine Ax 59 Tryz.call42 Tryz.func42 ?_;simp only[go_sem];refine Aa fun _ a6=>Ac 3 fun c _=>?_;simp only[go_sem];refine a6 (Aa fun _ ac=>Aa fun _ R=>?_);by_cases S:100 < s.types.length
 ·have F:((100:Int) < (s.types.length:Int))=True:=eq_true (by omega);refine Ac 4 fun Z au=>?_;simp only[go_sem,F];refine R (Al (Aa fun _ ah=>Ac 2 fun _ _=>?_));simp only[go_sem];refine ah (Aa fun _ ai=>Ac 2 fun _ _=>?_);simp only[go_sem];refine ai (Ah (Ag ?_));simp only[go_sem];exact Co.of_eq (by simp[putT,S])
 ·have F:((100:Int) < (s.types.length:Int))=False:=eq_false (by omega);have G:putT s x={ s with types:=(CB BK x false s.types).getD s.types }:=by
   unfold putT putG;rw[if_neg S]
  refine Ac 4 fun Z au=>?_;simp only[go_sem,F];refine R (Aj (Ae (ac (Aa fun _ aj=>Ac 1 fun _ _=>?_))));simp only[go_sem];refine aj (Aa fun _ ak=>?_);refine Bh 5 25 3 rfl fun M aC=>?_;have A:M≠c:=Ar aC 2 0 (by simp[go_sem]);refine Ac 1 fun _ _=>?_;simp only[go_sem];refine ak (Aa fun _ al=>Aa fun _ am=>Ac 1 fun _ _=>?_);simp only[go_sem];refine am (Ai ?_)
  refine Ay (fun m X=>∃ k a i done L,a≠c∧k≤s.types.length∧m=s.types.length - k∧L.length≤2 * k∧CB BK x false s.types=(CB BK x done (s.types.drop k)).map (fun m=>L++m)∧Le { env:=[(2,.ptr ⟨c,2,0⟩ 0),(3,.ptr ⟨c,3,0⟩ 0),(4,.ptr ⟨c,4,0⟩ 0),(5,.own ⟨a,i,0⟩ L.length),(6,dB done),(7,dN k)],σ:=[(⟨c,2,0⟩,.box 35 (isC s)),(⟨c,3,0⟩,.box 25 (tyC x)),(⟨c,4,0⟩,.box 35 [.val (.slice none 0 0),.val (.slice none 0 0),.val (.bool false)]),(⟨a,i,0⟩,.arr 25 3 (L.map AC))] } X) s.types.length ?_ ?_
  ·refine ⟨0,M,0,false,[],A,dX _,rfl,dX _,?_,Ao ?_⟩
   ·rw[gP];cases CB BK x false s.types <;> rfl
   simp only[go_sem,tyC,A,A.symm];all_goals first|trivial|omega
  ·rintro m X ⟨k,a,i,done,L,b,hk,rfl,aE,l,V⟩;refine Az V ?_;clear V;refine Aa fun _ a7=>Aa fun _ N=>?_;by_cases p:k < s.types.length
   ·have n:=@PW _ BK x s.types k p done;have u:=getM (f:=AC) p;generalize s.types[k]=Y at *;have aq:=ar Y;refine Ac 5 fun g7 aB=>?_;simp only[go_sem,p,tyC,b];refine N (Al (Ae (a7 (Aa fun _ w=>Ai (Aa fun _ a8=>AF 7 fun _ _ _ _ v ap=>Av 6 v ?_)))));simp only[go_sem,u,b];refine Aw v (aq _ _) ?_;refine Ap 0 v ?_;simp only[go_sem];refine Ad 1 v ?_;simp only[go_sem];refine ap (a8 (Aa fun _ a9=>Aa fun _ O=>?_));by_cases h0:BK x Y=0
    ·rw[if_pos h0] at n;refine Ac 2 fun a0 av=>?_;simp only[go_sem,h0];refine O (Al (Aa fun _ aa=>Ac 2 fun _ _=>?_));simp only[go_sem,b];refine aa (Ah ?_);rw[G,l,n];refine Ag ?_;simp only[go_sem,b];exact Co.refl _
    ·rw[if_neg h0] at n;refine Ac 2 fun a0 av=>?_;simp only[go_sem,h0];refine O (Aj (Ae (a9 (Aa fun _ y=>Aa fun _ z=>?_))));by_cases r:BK x Y < 0
     ·cases done with
      | false =>
       rw[if_pos ⟨r,rfl⟩] at n;refine Ac 6 fun I T=>?_;simp only[go_sem,r];refine z (Al (Aa fun _ ab=>Am fun a1 aw _ _ C an=>Af 3 C ?_));simp only[go_sem,b];refine AG C rfl rfl rfl rfl rfl es23 sz25 by25 ze25 rfl (by decide) ?_;simp only[go_sem,b.symm];first | refine ⟨⟨by omega,by omega⟩,?_⟩ | skip
       have B:a1≠c:=Ar aw 2 0 (by simp[go_sem]);refine Ad 1 C ?_;simp only[go_sem];refine an (ab (Ac 1 fun _ _=>?_));simp only[go_sem];refine y (Am fun o t W H j q=>Af 7 j ?_);simp only[go_sem,u,B];refine AG j rfl rfl rfl rfl rfl es23 sz25 by25 ze25 rfl (by decide) ?_;simp only[go_sem,B.symm];first | refine ⟨⟨by omega,by omega⟩,?_⟩ | skip
       have e:o≠c:=Ar t 2 0 (by simp[go_sem,B]);refine Ad 1 j ?_;simp only[go_sem];refine q (w (Ac 3 fun K U=>?_));simp only[go_sem,tyC];try simp (disch:=omega) only[Au]
       refine ⟨_,?_,k + 1,o,49,true,L++[x,Y],e,p,rfl,?_,?_,Ao ?_⟩
       ·omega
       ·rw[dQ]; simp only[eB,eZ]; omega
       ·rw[l,n,Kj]
       simp only[go_sem,eE,e,e.symm];all_goals first|trivial|omega
      | true =>
       rw[if_neg (by simp)] at n;refine Ac 6 fun I T=>?_;simp only[go_sem,r];refine z (Aj (Ae (y (Am fun o t W H j q=>Af 7 j ?_))));simp only[go_sem,u,b];refine AG j rfl rfl rfl rfl rfl es23 sz25 by25 ze25 rfl (by decide) ?_;simp only[go_sem,b.symm];first | refine ⟨⟨by omega,by omega⟩,?_⟩ | skip
       have e:o≠c:=Ar t 2 0 (by simp[go_sem]);refine Ad 1 j ?_;simp only[go_sem];refine q (w (Ac 3 fun K U=>?_));simp only[go_sem,tyC];try simp (disch:=omega) only[Au]
       refine ⟨_,?_,k + 1,o,49,true,L++[Y],e,p,rfl,?_,?_,Ao ?_⟩
       ·omega
       ·rw[dQ]; simp only[eB,eZ]; omega
       ·rw[l,n,Kj]
       simp only[go_sem,e,e.symm];all_goals first|trivial|omega
     ·rw[if_neg (fun h=>r h.1)] at n;refine Ac 6 fun I T=>?_;simp only[go_sem,r];refine z (Aj (Ae (y (Am fun o t W H j q=>Af 7 j ?_))));simp only[go_sem,u,b];refine AG j rfl rfl rfl rfl rfl es23 sz25 by25 ze25 rfl (by decide) ?_;simp only[go_sem,b.symm];first | refine ⟨⟨by omega,by omega⟩,?_⟩ | skip
      have e:o≠c:=Ar t 2 0 (by simp[go_sem]);refine Ad 1 j ?_;simp only[go_sem];refine q (w (Ac 3 fun K U=>?_));simp only[go_sem,tyC];try simp (disch:=omega) only[Au]
      refine ⟨_,?_,k + 1,o,49,done,L++[Y],e,p,rfl,?_,?_,Ao ?_⟩
      ·omega
      ·rw[dQ]; simp only[eB,eZ]; omega
      ·rw[l,n,Kj]
      simp only[go_sem,e,e.symm];all_goals first|trivial|omega
   ·have:k=s.types.length:=by omega
    subst this;rw[eY,CB] at l;refine Ac 5 fun g7 aB=>?_;simp only[go_sem,p,tyC,b];refine N (Aj (Aq (al (Aa fun _ P=>Aa fun _ Q=>?_))));cases done with
    | true =>
     simp only[if_true,eH,fe] at l;refine Ac 2 fun a2 ax=>?_;simp only[go_sem];refine Q (Aj (Ae (P (Aa fun _ ad=>?_))));refine Ch ⟨a,i,0⟩ ?_;simp only[go_sem,b.symm];refine Ac 3 fun a3 az=>?_;simp only[go_sem];refine ad (Aa fun _ ae=>Ac 2 fun a4 aA=>?_);simp only[go_sem];refine ae (Ah ?_);rw[G,l];refine Ag ?_;simp only[go_sem];exact Co.refl _
    | false =>
     simp only[fb,if_false,eH] at l;refine Ac 2 fun a2 ax=>?_;simp only[go_sem];refine Q (Al (Am fun J ay _ _ D ao=>Af 3 D ?_));simp only[go_sem,b];refine AG D rfl rfl rfl rfl rfl es23 sz25 by25 ze25 rfl (by decide) ?_;simp only[go_sem,b.symm];first | refine ⟨⟨by omega,by omega⟩,?_⟩ | skip
     have aD:J≠c:=Ar ay 2 0 (by simp[go_sem]);refine Ad 1 D ?_;simp only[go_sem];refine ao (P (Aa fun _ af=>?_));refine Ch ⟨J,55,0⟩ ?_;simp only[go_sem,aD.symm];refine Ac 3 fun a3 az=>?_;simp only[go_sem];refine af (Aa fun _ ag=>Ac 2 fun a4 aA=>?_);simp only[go_sem];refine ag (Ah ?_);rw[G,l];refine Ag ?_;simp only[go_sem];exact Co.of_eq (by simp[])
set_option maxRecDepth 100000 in
set_option maxHeartbeats 2000000 in
theorem WK (s:ISet) (hs:s.calls.length≤1000000) (x:Cal) (hx:Hw x) (g d:Nat):ACalls E 43 [Ey s,E8 x] [] g d (Ey (putC s x)) []:=by
 have ar:=fun Y=>U4 x Y hx;have aG:s.calls.length≤1000000:=hs;refine Ax 59 Tryz.call43 Tryz.func43 ?_;simp only[go_sem];refine Aa fun _ a6=>Ac 3 fun c _=>?_;simp only[go_sem];refine a6 (Aa fun _ ac=>Aa fun _ R=>?_);by_cases S:100 < s.calls.length
 ·have F:((100:Int) < (s.calls.length:Int))=True:=eq_true (by omega);refine Ac 4 fun Z au=>?_;simp only[go_sem,F];refine R (Al (Aa fun _ ah=>Ac 2 fun _ _=>?_));simp only[go_sem];refine ah (Aa fun _ ai=>Ac 2 fun _ _=>?_);simp only[go_sem];refine ai (Ah (Ag ?_));simp only[go_sem];exact Co.of_eq (by simp[putC,S])
 ·have F:((100:Int) < (s.calls.length:Int))=False:=eq_false (by omega);have G:putC s x={ s with calls:=(CB D8 x false s.calls).getD s.calls }:=by
   unfold putC putG;rw[if_neg S]
  refine Ac 4 fun Z au=>?_;simp only[go_sem,F];refine R (Aj (Ae (ac (Aa fun _ aj=>Ac 1 fun _ _=>?_))));simp only[go_sem];refine aj (Aa fun _ ak=>?_);refine Bh 5 79 5 rfl fun M aC=>?_;have A:M≠c:=Ar aC 2 0 (by simp[go_sem]);refine Ac 1 fun _ _=>?_;simp only[go_sem];refine ak (Aa fun _ al=>Aa fun _ am=>Ac 1 fun _ _=>?_);simp only[go_sem];refine am (Ai ?_)
  refine Ay (fun m X=>∃ k a i done L,a≠c∧k≤s.calls.length∧m=s.calls.length - k∧L.length≤2 * k∧CB D8 x false s.calls=(CB D8 x done (s.calls.drop k)).map (fun m=>L++m)∧Le { env:=[(2,.ptr ⟨c,2,0⟩ 0),(3,.ptr ⟨c,3,0⟩ 0),(4,.ptr ⟨c,4,0⟩ 0),(5,.own ⟨a,i,0⟩ L.length),(6,dB done),(7,dN k)],σ:=[(⟨c,2,0⟩,.box 35 (isC s)),(⟨c,3,0⟩,.box 79 (calC x)),(⟨c,4,0⟩,.box 35 [.val (.slice none 0 0),.val (.slice none 0 0),.val (.bool false)]),(⟨a,i,0⟩,.arr 79 5 (L.map E8))] } X) s.calls.length ?_ ?_
  ·refine ⟨0,M,0,false,[],A,dX _,rfl,dX _,?_,Ao ?_⟩
   ·rw[gP];cases CB D8 x false s.calls <;> rfl
   simp only[go_sem,calC,A,A.symm];all_goals first|trivial|omega
  ·rintro m X ⟨k,a,i,done,L,b,hk,rfl,aE,l,V⟩;refine Az V ?_;clear V;refine Aa fun _ a7=>Aa fun _ N=>?_;by_cases p:k < s.calls.length
   ·have n:=@PW _ D8 x s.calls k p done;have u:=getM (f:=E8) p;generalize s.calls[k]=Y at *;have aq:=ar Y;refine Ac 5 fun g7 aB=>?_;simp only[go_sem,p,calC,b];refine N (Al (Ae (a7 (Aa fun _ w=>Ai (Aa fun _ a8=>AF 7 fun _ _ _ _ v ap=>Av 6 v ?_)))));simp only[go_sem,u,calC,b];refine Aw v (aq _ _) ?_;refine Ap 0 v ?_;simp only[go_sem];refine Ad 1 v ?_;simp only[go_sem];refine ap (a8 (Aa fun _ a9=>Aa fun _ O=>?_));by_cases h0:D8 x Y=0
    ·rw[if_pos h0] at n;refine Ac 2 fun a0 av=>?_;simp only[go_sem,h0];refine O (Al (Aa fun _ aa=>Ac 2 fun _ _=>?_));simp only[go_sem,b];refine aa (Ah ?_);rw[G,l,n];refine Ag ?_;simp only[go_sem,b];exact Co.refl _
    ·rw[if_neg h0] at n;refine Ac 2 fun a0 av=>?_;simp only[go_sem,h0];refine O (Aj (Ae (a9 (Aa fun _ y=>Aa fun _ z=>?_))));by_cases r:D8 x Y < 0
     ·cases done with
      | false =>
       rw[if_pos ⟨r,rfl⟩] at n;refine Ac 6 fun I T=>?_;simp only[go_sem,r];refine z (Al (Aa fun _ ab=>Am fun a1 aw _ _ C an=>Af 3 C ?_));simp only[go_sem,b];refine AG C rfl rfl rfl rfl rfl es33 sz79 by79 ze79 rfl (by decide) ?_;simp only[go_sem,b.symm];first | refine ⟨⟨by omega,by omega⟩,?_⟩ | skip
       have B:a1≠c:=Ar aw 2 0 (by simp[go_sem]);refine Ad 1 C ?_;simp only[go_sem];refine an (ab (Ac 1 fun _ _=>?_));simp only[go_sem];refine y (Am fun o t W H j q=>Af 7 j ?_);simp only[go_sem,u,calC,B];refine AG j rfl rfl rfl rfl rfl es33 sz79 by79 ze79 rfl (by decide) ?_;simp only[go_sem,B.symm];first | refine ⟨⟨by omega,by omega⟩,?_⟩ | skip
       have e:o≠c:=Ar t 2 0 (by simp[go_sem,B]);refine Ad 1 j ?_;simp only[go_sem];refine q (w (Ac 3 fun K U=>?_));simp only[go_sem,calC];try simp (disch:=omega) only[Au]
       refine ⟨_,?_,k + 1,o,49,true,L++[x,Y],e,p,rfl,?_,?_,Ao ?_⟩
       ·omega
       ·rw[dQ]; simp only[eB,eZ]; omega
       ·rw[l,n,Kj]
       simp only[go_sem,eE,calC,e,e.symm];all_goals first|trivial|omega
      | true =>
       rw[if_neg (by simp)] at n;refine Ac 6 fun I T=>?_;simp only[go_sem,r];refine z (Aj (Ae (y (Am fun o t W H j q=>Af 7 j ?_))));simp only[go_sem,u,calC,b];refine AG j rfl rfl rfl rfl rfl es33 sz79 by79 ze79 rfl (by decide) ?_;simp only[go_sem,b.symm];first | refine ⟨⟨by omega,by omega⟩,?_⟩ | skip
       have e:o≠c:=Ar t 2 0 (by simp[go_sem]);refine Ad 1 j ?_;simp only[go_sem];refine q (w (Ac 3 fun K U=>?_));simp only[go_sem,calC];try simp (disch:=omega) only[Au]
       refine ⟨_,?_,k + 1,o,49,true,L++[Y],e,p,rfl,?_,?_,Ao ?_⟩
       ·omega
       ·rw[dQ]; simp only[eB,eZ]; omega
       ·rw[l,n,Kj]
       simp only[go_sem,calC,e,e.symm];all_goals first|trivial|omega
     ·rw[if_neg (fun h=>r h.1)] at n;refine Ac 6 fun I T=>?_;simp only[go_sem,r];refine z (Aj (Ae (y (Am fun o t W H j q=>Af 7 j ?_))));simp only[go_sem,u,calC,b];refine AG j rfl rfl rfl rfl rfl es33 sz79 by79 ze79 rfl (by decide) ?_;simp only[go_sem,b.symm];first | refine ⟨⟨by omega,by omega⟩,?_⟩ | skip
      have e:o≠c:=Ar t 2 0 (by simp[go_sem]);refine Ad 1 j ?_;simp only[go_sem];refine q (w (Ac 3 fun K U=>?_));simp only[go_sem,calC];try simp (disch:=omega) only[Au]
      refine ⟨_,?_,k + 1,o,49,done,L++[Y],e,p,rfl,?_,?_,Ao ?_⟩
      ·omega
      ·rw[dQ]; simp only[eB,eZ]; omega
      ·rw[l,n,Kj]
      simp only[go_sem,calC,e,e.symm];all_goals first|trivial|omega
   ·have:k=s.calls.length:=by omega
    subst this;rw[eY,CB] at l;refine Ac 5 fun g7 aB=>?_;simp only[go_sem,p,calC,b];refine N (Aj (Aq (al (Aa fun _ P=>Aa fun _ Q=>?_))));cases done with
    | true =>
     simp only[if_true,eH,fe] at l;refine Ac 2 fun a2 ax=>?_;simp only[go_sem];refine Q (Aj (Ae (P (Aa fun _ ad=>?_))));refine Ch ⟨a,i,0⟩ ?_;simp only[go_sem,b.symm];refine Ac 3 fun a3 az=>?_;simp only[go_sem];refine ad (Aa fun _ ae=>Ac 2 fun a4 aA=>?_);simp only[go_sem];refine ae (Ah ?_);rw[G,l];refine Ag ?_;simp only[go_sem];exact Co.refl _
    | false =>
     simp only[fb,if_false,eH] at l;refine Ac 2 fun a2 ax=>?_;simp only[go_sem];refine Q (Al (Am fun J ay _ _ D ao=>Af 3 D ?_));simp only[go_sem,b];refine AG D rfl rfl rfl rfl rfl es33 sz79 by79 ze79 rfl (by decide) ?_;simp only[go_sem,b.symm];first | refine ⟨⟨by omega,by omega⟩,?_⟩ | skip
     have aD:J≠c:=Ar ay 2 0 (by simp[go_sem]);refine Ad 1 D ?_;simp only[go_sem];refine ao (P (Aa fun _ af=>?_));refine Ch ⟨J,55,0⟩ ?_;simp only[go_sem,aD.symm];refine Ac 3 fun a3 az=>?_;simp only[go_sem];refine af (Aa fun _ ag=>Ac 2 fun a4 aA=>?_);simp only[go_sem];refine ag (Ah ?_);rw[G,l];refine Ag ?_;simp only[go_sem,calC];exact Co.of_eq (by simp[])
theorem Li {α:Type} {cmp:α→α→Int} {x:α}:∀ (done:Bool) (l m:List α),CB cmp x done l=some m→m.length≤l.length + 1∧(done=true→m.length=l.length)∧∀ y∈m,y=x∨y∈l
 | done,[],m,h=>by
  unfold CB at h;cases done with
  | true=>simp at h; subst h; simp
  | false=>simp at h; subst h; simp
 | done,y :: r,m,h=>by
  unfold CB at h;split at h
  ·cases h
  ·split at h
   ·rename_i hc;obtain ⟨m',h1,rfl⟩:=ee.1 h;obtain ⟨a,b,c⟩:=Li true r m' h1;have:=b rfl;refine ⟨by simp; omega,fun hd=>(by rw[hc.2] at hd; cases hd),fun z hz=>?_⟩;simp only[f8,gt,eq] at hz;rcases hz with rfl | rfl | hz
    ·exact .inl rfl
    ·exact .inr dY
    ·exact (c z hz).imp id (ea _)
   ·obtain ⟨m',h1,rfl⟩:=ee.1 h;obtain ⟨a,b,c⟩:=Li done r m' h1;refine ⟨by simp; omega,fun hd=>by simp[b hd],fun z hz=>?_⟩;simp only[f8,gt,eq] at hz;rcases hz with rfl | hz
    ·exact .inr dY
    ·exact (c z hz).imp id (ea _)
theorem Ju {α:Type} {cmp:α→α→Int} (l:List α) (x:α):(putG cmp l x).length≤l.length + 1∧∀ y∈putG cmp l x,y=x∨y∈l:=by
 unfold putG;cases h:CB cmp x false l with
 | none=>exact ⟨fu _,fun y b=>.inr b⟩
 | some m =>
  obtain ⟨a,_,c⟩:=Li false l m h;exact ⟨a,c⟩
structure IOk (s:ISet):Prop where
 tl:s.types.length≤101
 ts:∀ t∈s.types,smTy t
 cl:s.calls.length≤101
 cs:∀ c∈s.calls,Hw c
theorem IOk.putT {s:ISet} (h:IOk s) {x:Ty} (hx:smTy x):IOk (putT s x):=by
 unfold Go.Proofs.T.putT;split
 ·exact ⟨h.tl,h.ts,h.cl,h.cs⟩
 ·obtain ⟨a,b⟩:=Ju (cmp:=BK) s.types x;exact ⟨by simp only; omega,fun t c=>(b t c).elim (fun e=>e ▸ hx) (h.ts t),h.cl,h.cs⟩
theorem IOk.putC {s:ISet} (h:IOk s) {x:Cal} (hx:Hw x):IOk (putC s x):=by
 unfold Go.Proofs.T.putC;split
 ·exact ⟨h.tl,h.ts,h.cl,h.cs⟩
 ·obtain ⟨a,b⟩:=Ju (cmp:=D8) s.calls x;exact ⟨h.tl,h.ts,by simp only; omega,fun t c=>(b t c).elim (fun e=>e ▸ hx) (h.cs t)⟩
theorem IOk.lrg {s:ISet} (h:IOk s) (b:Bool):IOk { s with large:=b }:=⟨h.tl,h.ts,h.cl,h.cs⟩
noncomputable def Dp (s:ISet) (x:Ex):ISet:=if x.kind=3∨x.kind=5 then putT s x.type else s
noncomputable def GP (s:ISet) (x:Ex) (q:Ty × Rz):ISet :=
 if q.2.bad=true then { s with large:=s.large || q.2.large } else putC (putT { s with large:=s.large || q.2.large } q.1) ⟨q.1,x.name,x.targs⟩
noncomputable def need1 (c:Cx) (s:ISet) (x:Ex):ISet:=if x.kind=2 then (match x.kids with
  | []=>Dp s x
  | k :: _=>GP (Dp s x) x (inf c k))
 else Dp s x
noncomputable def Ir (c:Cx) (s:ISet) (e:Ex):ISet:=(AB e).foldl (need1 c) s
theorem TP {s:ISet} (h:IOk s) {x:Ex} (hx:smEx x):IOk (Dp s x):=by
 unfold Dp;split
 ·exact h.putT ((Bd x).1 hx).2.1
 ·exact h
theorem ZL {c:Cx} (hc:smCx c) {s:ISet} (h:IOk s) {x:Ex} (hx:smEx x):IOk (need1 c s x):=by
 obtain ⟨e,j,⟨f,g⟩,l,i⟩:=(Bd x).1 hx;have a:=TP h hx;unfold need1;split
 ·cases d:x.kids with
  | nil=>exact a
  | cons k r =>
   have b:=Kh c hc k (i k (by rw[d]; exact dY))
   show IOk (GP (Dp s x) x (inf c k));unfold GP;split
   ·exact a.lrg _
   ·exact ((a.lrg _).putT b).putC (x:=⟨_,x.name,x.targs⟩) ⟨b,e,f,g⟩
 ·exact a
theorem HJ {c:Cx} (hc:smCx c):∀ (l:List Ex) (s:ISet),IOk s→(∀ x∈l,smEx x)→IOk (l.foldl (need1 c) s)
 | [],_,h,_=>h
 | x :: l,_,h,hx=>HJ hc l _ (ZL hc h (hx x dY)) (fun y hy=>hx y (ea _ hy))
theorem nodes_sm:∀ e:Ex,smEx e→∀ x∈AB e,smEx x:=by
 refine Ex.ind fun e ih b x a=>?_;obtain ⟨g,h,⟨i,j⟩,l,f⟩:=(Bd e).1 b;rw[BC,BF] at a;rcases eq.1 a with rfl | a
 ·exact b
 ·obtain ⟨k,c,d⟩:=ez.1 a;exact ih k c (f k c) x d
def AN (p:Prg) (vars:List Param):Cx:=⟨p,false,[],vars⟩
theorem ab9 (p:Prg) (vars:List Param):Co (.agg (prC p++[.val (.bool false),.val (.slice none 0 0),slPa vars])) (F6 (AN p vars)) :=
 .agg (CoL.app (CoL.refl _) (.cons (.refl _) (.cons (.nil _) (.cons (.refl _) .nil))))
def zIS:List D:=[.val (.slice none 0 0),.val (.slice none 0 0),.val (.bool false)]
set_option maxRecDepth 100000 in
set_option maxHeartbeats 2000000 in
theorem LE (p:Prg) (hp:smPr p) (vars:List Param) (hc:smCx (AN p vars)) (s:ISet) (hs:IOk s) (e:Ex) (he:smEx e) (hl:(AB e).length≤1000000) (hk:∀ x∈AB e,x.kind=2→x.kids≠[]) (g d:Nat):ACalls E 21 [AZ p,Ey s,AK e,slPa vars] [] g d (Ey (Ir (AN p vars) s e)) []:=by
 have aN:=DB e (smEx.ok _ he) hl;have ae:=nodes_sm e he;have aQ:Ir (AN p vars) s e=(AB e).foldl (need1 (AN p vars)) s:=rfl;have aS:=IZ (AN p vars) hc;have aR:=Kh (AN p vars) hc;have aG:=ab9 p vars;have aO:=fun k=>HJ hc ((AB e).take k) s hs (fun x hx=>ae x (ff hx));generalize AB e=l at *;refine Ax 89 Tryz.call21 Tryz.func21 ?_;simp only[go_sem];refine Aa fun _ au=>Ac 4 fun q _=>?_;simp only[go_sem];refine au (Aa fun _ az=>Am fun _ _ _ _ P aD=>Af 1 P ?_);simp only[go_sem];refine Ak P (aN _ _) ?_;refine Ad 1 P ?_;simp only[go_sem]
 refine aD (az (Aa fun _ aA=>Aa fun _ aB=>Ac 1 fun _ _=>?_));simp only[go_sem];refine aB (Ai ?_);refine Ay (fun m st=>∃ k,k≤l.length∧m=l.length - k∧Le { env:=[(3,slPa vars),(4,.ptr ⟨q,4,0⟩ 0),(5,.ptr ⟨q,5,0⟩ 0),(8,.ptr ⟨q,8,0⟩ 0),(9,slEx l),(10,dN k)],σ:=[(⟨q,4,0⟩,.box 30 (prC p)),(⟨q,5,0⟩,.box 35 (isC ((l.take k).foldl (need1 (AN p vars)) s))),(⟨q,8,0⟩,.box 35 zIS)] } st) l.length ?_ ?_
 ·refine ⟨0,dX _,rfl,Ao ?_⟩;simp only[go_sem,zIS];all_goals first|trivial|omega
 ·rintro m st ⟨k,b2,rfl,a9⟩;refine Az a9 ?_;clear a9;refine Aa fun _ aC=>Aa fun _ a4=>?_;by_cases j:k < l.length
  ·have h:=DY (need1 (AN p vars)) l k j s;have C:=aO k;have i:=getM (f:=AK) j;have hm:=dP j;have hX:=ae _ hm;have aM:=hk _ hm;generalize (l.take k).foldl (need1 (AN p vars)) s=S at *;generalize l[k]=X at *;obtain ⟨s1,s2,⟨s3,s4⟩,s5,s6⟩:=(Bd X).1 hX;have a:need1 (AN p vars) S X=if X.kind=2 then (match X.kids with
     | []=>Dp S X
     | k :: _=>GP (Dp S X) X (inf (AN p vars) k))
    else Dp S X:=rfl
   have Q:=fun Y hY=>E5 S (by have:=C.tl; omega) Y hY;have aP:=TP C hX;have w:Dp S X=if X.kind=3∨X.kind=5 then putT S X.type else S:=rfl
   refine Ac 4 fun g3 aI=>?_;simp only[go_sem,j,zIS];refine a4 (Al (Ae (aC (Aa fun _ r=>Ai (Aa fun _ H=>Aa fun _ I=>?_)))));by_cases R:X.kind=3∨X.kind=5
   ·rw[if_pos R] at w;have o:¬ X.kind=2:=by omega
    have z:=eq_false o;rw[if_neg o,w] at a;rw[a] at h;rcases R with k3 | k5
    ·have A:=eq_true k3;refine Ac 14 fun W a7=>?_;simp only[go_sem,i,A];refine I (Al (AF 7 fun g6 aJ aX am n K=>Av 6 n ?_));simp only[go_sem,i];refine Aw n (Q X.type s2 _ _) ?_;refine Ap 0 n ?_;simp only[go_sem];refine Ad 1 n ?_;simp only[go_sem];refine K (H (Aa fun _ av=>Ac 6 fun G O=>?_));simp only[go_sem,i,z];refine av (Aj (Ae (r (Ac 3 fun u v=>?_))));simp only[go_sem,zIS];try simp (disch:=omega) only[Au]
     refine ⟨_,?_,k + 1,j,rfl,Ao ?_⟩
     ·omega
     simp only[go_sem,h];all_goals first|trivial|omega
    ·have A:(X.kind=3)=False:=eq_false (by omega);have T:=eq_true k5;refine Ac 14 fun W a7=>?_;simp only[go_sem,i,A,T];refine I (Al (AF 7 fun g6 aJ aX am n K=>Av 6 n ?_));simp only[go_sem,i];refine Aw n (Q X.type s2 _ _) ?_;refine Ap 0 n ?_;simp only[go_sem];refine Ad 1 n ?_;simp only[go_sem];refine K (H (Aa fun _ aw=>Ac 6 fun G O=>?_));simp only[go_sem,i,z];refine aw (Aj (Ae (r (Ac 3 fun u v=>?_))));simp only[go_sem,zIS];try simp (disch:=omega) only[Au]
     refine ⟨_,?_,k + 1,j,rfl,Ao ?_⟩
     ·omega
     simp only[go_sem,h];all_goals first|trivial|omega
   ·rw[if_neg R] at w;have A:(X.kind=3)=False:=eq_false (by omega);have T:(X.kind=5)=False:=eq_false (by omega);refine Ac 14 fun W a7=>?_;simp only[go_sem,i,A,T];refine I (Aj (Ae (H (Aa fun _ a0=>?_))));by_cases o:X.kind=2
    ·have z:=eq_true o;rw[if_pos o] at a;obtain ⟨KL,B⟩:∃ L,X.kids=L:=⟨_,rfl⟩
     cases KL with
     | nil=>exact absurd B (aM o)
     | cons t b3 =>
      rw[B] at a;simp only at a;rw[w] at a;have ab:t∈X.kids:=by rw[B]; exact dY
      have M:=aS t (s6 t ab);have D:=aR t (s6 t ab);have a8:at? (X.kids.map AK) 0=some (AK t):=by rw[B]; rfl
      unfold InfC at M;generalize inf (AN p vars) t=xr at *;obtain ⟨x,rp,rb,rl⟩:=xr;simp only at D;have a6:=aG;simp only[go_sem] at a6;refine Ac 6 fun G O=>?_;simp only[go_sem,i,z];refine a0 (Al (Aa fun _ ax=>?_));refine Kept.awp_anyT 17 [0,0,3,0,0,24,56,120,248,504,1023,2047,4095,4095,0,0,57343,131071] (by kernel_rfl) (by kernel_rfl) (by kernel_rfl) rfl (fun Z aK _ _ y aE=>?_);refine Kept.qrunT_eval 10 y rfl ?_;simp only[go_sem,i,a8];refine Kept.qrunT_pure y rfl rfl rfl (M _ _) (.cons a6 (.cons (.refl _) .nil)) rfl ?_;refine Kept.qrunT_eval 5 y rfl ?_;simp only[go_sem,trD]
      refine Kept.Ij y rfl rfl rfl ⟨Z,11,0⟩ rfl rfl ?_;simp only[go_sem];refine Kept.qrunT_last 0 y rfl ?_;simp only[go_sem];refine Ad 1 y ?_;simp only[go_sem];refine aE _ (ax (Aa fun _ a1=>?_));have b:Z≠q:=Ar aK 4 0 (by simp[go_sem]);clear Q aP w a8 M;obtain ⟨V,U,SL⟩:=S;have ad:=fun L=>E5 ⟨V,U,L⟩ (by have:=C.tl; simp only at this ⊢; omega) x D;have ac:=fun L=>WK (putT ⟨V,U,L⟩ x) (by have:=(IOk.putT (C.lrg L) D).cl; simp only at this ⊢; omega) ⟨x,X.name,X.targs⟩ ⟨D,s1,s3,s4⟩;unfold GP at a;simp only at a;cases SL with
      | true =>
       simp only[gR] at a;refine Ac 8 fun g9 aL=>?_;simp only[go_sem,b];refine a1 (Aa fun _ a2=>?_);cases rb with
       | true =>
        rw[if_pos rfl] at a;rw[a] at h;refine Ac 3 fun F N=>?_;simp only[go_sem,b.symm];refine a2 (Aj (Ae (r (Ac 3 fun u v=>?_))));simp only[go_sem,zIS];try simp (disch:=omega) only[Au]
        refine ⟨_,?_,k + 1,j,rfl,Ao ?_⟩
        ·omega
        simp only[go_sem,h,b];all_goals first|trivial|omega
       | false =>
        rw[if_neg (by simp)] at a;rw[a] at h;refine Ac 3 fun F N=>?_;simp only[go_sem,b.symm];refine a2 (Al (AF 16 fun ao aH aW al c J=>Av 2 c ?_));simp only[go_sem,b,b.symm];refine Aw c (ad true _ _) ?_;refine Av 12 c ?_;simp only[go_sem,i,b.symm];refine Aw c (ac true _ _) ?_;refine Ap 0 c ?_;simp only[go_sem];refine Ad 1 c ?_;simp only[go_sem,b];refine J (r (Ac 3 fun u v=>?_));simp only[go_sem,zIS];try simp (disch:=omega) only[Au]
        refine ⟨_,?_,k + 1,j,rfl,Ao ?_⟩
        ·omega
        simp only[go_sem,h,b];all_goals first|trivial|omega
      | false =>
       simp only[fL] at a;refine Ac 8 fun g9 aL=>?_;simp only[go_sem,b,b.symm];refine a1 (Aa fun _ a3=>?_);cases rb with
       | true =>
        rw[if_pos rfl] at a;rw[a] at h;refine Ac 3 fun F N=>?_;simp only[go_sem,b.symm];refine a3 (Aj (Ae (r (Ac 3 fun u v=>?_))));simp only[go_sem,zIS];try simp (disch:=omega) only[Au]
        refine ⟨_,?_,k + 1,j,rfl,Ao ?_⟩
        ·omega
        simp only[go_sem,h,b];all_goals first|trivial|omega
       | false =>
        rw[if_neg (by simp)] at a;rw[a] at h;refine Ac 3 fun F N=>?_;simp only[go_sem,b.symm];refine a3 (Al (AF 16 fun ao aH aW al c J=>Av 2 c ?_));simp only[go_sem,b,b.symm];refine Aw c (ad rl _ _) ?_;refine Av 12 c ?_;simp only[go_sem,i,b.symm];refine Aw c (ac rl _ _) ?_;refine Ap 0 c ?_;simp only[go_sem];refine Ad 1 c ?_;simp only[go_sem,b];refine J (r (Ac 3 fun u v=>?_));simp only[go_sem,zIS];try simp (disch:=omega) only[Au]
        refine ⟨_,?_,k + 1,j,rfl,Ao ?_⟩
        ·omega
        simp only[go_sem,h,b];all_goals first|trivial|omega
    ·have z:=eq_false o;rw[if_neg o,w] at a;rw[a] at h;refine Ac 6 fun G O=>?_;simp only[go_sem,i,z];refine a0 (Aj (Ae (r (Ac 3 fun u v=>?_))));simp only[go_sem,zIS];try simp (disch:=omega) only[Au]
     refine ⟨_,?_,k + 1,j,rfl,Ao ?_⟩
     ·omega
     simp only[go_sem,h];all_goals first|trivial|omega
  ·have:k=l.length:=by omega
   subst this;rw[eo];refine Ac 4 fun g3 aI=>?_;simp only[go_sem,j,zIS];refine a4 (Aj (Aq (aA (Aa fun _ ay=>Ac 2 fun _ _=>?_))));simp only[go_sem];refine ay (Ah ?_);rw[aQ];refine Ag ?_;simp only[go_sem];exact Co.refl _
def bdNs (d:Dec):List Str:=d.vars++d.sig.formals.map (·.name)
def I3 (d:Dec) (us:List Ty):List Param:=((⟨d.recv,Ki d,0⟩ :: d.sig.params:List Param)).map (DS (AD (bdNs d) us))
noncomputable def bdOf (p:Prg) (s:ISet) (x:Ty) (c:Cal):ISet:=match GB p x c.name with
 | none=>s
 | some d=>Ir (AN p (I3 d (x.args++c.targs))) s (Dk (bdNs d) (x.args++c.targs) d.body)
theorem TQ {ns:List Str} {us:List Ty}:∀ (l:List Ex),(∀ x∈l,AB (Dk ns us x)=(AB x).map (Dk ns us))→(l.map (Dk ns us)).flatMap AB=(l.flatMap AB).map (Dk ns us)
 | [],_=>rfl
 | k :: r,h=>by
  rw[eM,eO,eO,eC,h k dY,TQ r fun x hx=>h x (ea _ hx)]
theorem MB {ns:List Str} {us:List Ty}:∀ e:Ex,AB (Dk ns us e)=(AB e).map (Dk ns us):=by
 refine Ex.ind fun e ih=>?_;have a:(Dk ns us e).kids=e.kids.map (Dk ns us):=by
  rw[I0]
  rfl
 rw[BC,BC e,eM,BF,BF,a,TQ _ ih]
theorem TR {p:Prg} {x:Ty} {m:Str} {i:Nat} (hm:CR p x m=some i):∃ hi:i < p.decls.length,p.decls[i].kind=3∧p.decls[i].name=x.name∧p.decls[i].sig.name=m∧p.decls[i].vars.length=x.args.length∧BN p x 1=true∧GB p x m=some p.decls[i]:=by
 have h:=hm;unfold CR at hm;split at hm
 ·rename_i g;obtain ⟨e,d⟩:=Option.filter_eq_some_iff.1 hm;obtain ⟨b,j⟩:=ND e;obtain ⟨_,c,_⟩:=eU.1 e;unfold isMe at c;have a:=of_decide_eq_true c;rw[dO b] at d;have f:=of_decide_eq_true d;simp only[eX] at f;refine ⟨b,a.1,a.2.1,a.2.2,by omega,g,?_⟩;unfold GB;rw[h,fT,dO b]
 ·cases hm
theorem TS:∀ l:List Str,BO 1 (l.map encS):=fun l=>Du 1 encS l fun _=>⟨rfl,rfl⟩
theorem RD:∀ l:List Ty,BO 3 (l.map AC):=fun l=>Du 3 AC l fun _=>by rw[C0]; exact ⟨rfl,rfl⟩
set_option maxRecDepth 100000 in
set_option maxHeartbeats 2000000 in
theorem MC (p:Prg) (hp:smPr p) (hF:Lg p) (hP:Sw p) (hN:∀ d∈p.decls,(AB d.body).length≤1000000) (hK:∀ d∈p.decls,d.kind=3→∀ x∈AB d.body,x.kind=2→x.kids≠[]) (s:ISet) (hs:IOk s) (x:Ty) (hx:smTy x) (c:Cal) (hcs:Hw c) (hcl:c.targs.length≤400000) (hxl:x.args.length≤400000) (g d:Nat) :
  ACalls E 52 [AZ p,Ey s,AC x,E8 c] [] g d (Ey (bdOf p s x c)) []:=by
 have ag:=GC p x c.name hp.1.1;have bi:=hp.1.1;refine Ax 80 Tryz.call52 Tryz.func52 ?_;simp only[go_sem];refine Aa fun _ au=>Ac 5 fun l _=>?_;simp only[go_sem];refine au (Aa fun _ a9=>Am fun _ _ _ _ G aa=>Af 4 G ?_);simp only[go_sem];cases N:CR p x c.name with
 | none =>
  have P:bdOf p s x c=s:=by simp[bdOf,GB,N]
  have h0:((-1:Int) < 0)=True:=eq_true (by decide);refine Ak G (ag _ _) ?_;refine Ad 1 G ?_;simp only[go_sem,N,optI];refine aa (a9 (Aa fun _ _=>Aa fun _ aF=>Ac 2 fun g2 aW=>?_));simp only[go_sem,h0];refine aF (Al (Aa fun _ aG=>Ac 2 fun _ _=>?_));simp only[go_sem];refine aG (Ah ?_);rw[P];refine Ag ?_;simp only[go_sem];exact Co.refl _
 | some i =>
  obtain ⟨hi,b0,_,_,bj,_,hd⟩:=TR N;have aY:=getM (f:=Ce) hi;have A:=dP hi;have L:=hp.1.2 _ A;have ac:=(hF _ A).2;have bg:=hP _ A;have aT:=hN _ A;have aU:=hK _ A b0;have P:bdOf p s x c=Ir (AN p (I3 p.decls[i] (x.args++c.targs))) s (Dk (bdNs p.decls[i]) (x.args++c.targs) p.decls[i].body):=by
   unfold bdOf;rw[hd]
  generalize p.decls[i]=e at *;have R:∀ t∈x.args++c.targs,smTy t:=fun t ht=>(eu.1 ht).elim (((Bi x).1 hx).2.2 t) (hcs.2.2.2 t);have h0:((i:Int) < 0)=False:=eq_false (by omega);have ak:=LD p hp false e L ac;have ai:=BA e.sig.formals (by omega);have T:=Lh hp false L ac (by omega);have ah:(bdNs e).length≤1000000:=by
   unfold bdNs;rw[dQ,ei];omega
  have b4:=BB (bdNs e) (x.args++c.targs) ah R;refine Ak G (ag _ _) ?_;refine Ad 1 G ?_;simp only[go_sem,N,optI];refine aa (a9 (Aa fun _ aH=>Aa fun _ aI=>Ac 2 fun g2 aW=>?_));simp only[go_sem,h0];refine aI (Aj (Ae (aH (Aa fun _ aJ=>Ac 7 fun o aX=>?_))));simp only[go_sem,aY];refine aJ (Aa fun _ aK=>?_);have b:o≠l:=Ar aX 4 0 (by simp[go_sem]);refine awp_anyT 9 [0,0,2,7,0,16,48,127,255,511] (by kernel_rfl) (by kernel_rfl) (by kernel_rfl) rfl (fun g5 _ _ _ u aO=>?_);refine qrunT_eval 3 u rfl ?_;simp only[go_sem,b.symm]
  refine qrunT_app u rfl rfl rfl rfl rfl es44 sz9 by9 ze9 rfl (by decide) rfl rfl ?_;simp only[go_sem,TS];first | refine ⟨⟨by omega,by omega⟩,?_⟩ | skip
  refine qrunT_eval 3 u rfl ?_;simp only[go_sem,b.symm];refine qrunT_pure u rfl rfl rfl (ai _ _) (CoL.refl _) rfl ?_;refine qrunT_app u rfl rfl rfl rfl rfl es44 sz9 by9 ze9 rfl (by decide) rfl rfl ?_;simp only[go_sem,TS];first | refine ⟨⟨by omega,by omega⟩,?_⟩ | skip
  refine qrunT_last 0 u rfl ?_;simp only[go_sem];refine Ad 1 u ?_;simp only[go_sem];refine aO _ (aK (Aa fun _ av=>?_));refine Ch ⟨g5,38,0⟩ ?_;simp only[go_sem];refine awp_anyT 7 [0,0,2,7,0,16,63,127] (by kernel_rfl) (by kernel_rfl) (by kernel_rfl) rfl (fun g6 _ _ _ y aP=>?_);refine qrunT_eval 3 y rfl ?_;simp only[go_sem,b];refine qrunT_app y rfl rfl rfl rfl rfl es23 sz25 by25 ze25 rfl (by decide) rfl rfl ?_;simp only[go_sem,RD];first | refine ⟨⟨by omega,by omega⟩,?_⟩ | skip
  refine qrunT_eval 2 y rfl ?_;simp only[go_sem,b];refine qrunT_app y rfl rfl rfl rfl rfl es23 sz25 by25 ze25 rfl (by decide) rfl rfl ?_;simp only[go_sem,RD];first | refine ⟨⟨by omega,by omega⟩,?_⟩ | skip
  refine qrunT_last 0 y rfl ?_;simp only[go_sem];refine Ad 1 y ?_;simp only[go_sem];refine aP _ (av (Aa fun _ aw=>?_));refine Ch ⟨g6,45,0⟩ ?_;simp only[go_sem];refine Am fun q ad _ _ a7 aQ=>Af 2 a7 ?_;simp only[go_sem,b,b.symm];refine Ak a7 (ak _ _) ?_;refine Ad 2 a7 ?_;simp only[go_sem];refine aQ (aw (Aa fun _ ax=>?_));have j:q≠l:=Ar ad 4 0 (by simp[go_sem,b]);have n:q≠o:=Ar ad 10 0 (by simp[go_sem]);refine Ac 1 fun _ _=>?_;simp only[go_sem];refine ax (Aa fun _ ay=>Aa fun _ az=>?_);refine Bh 14 84 5 rfl fun K X=>?_;have Z:K≠l:=Ar X 4 0 (by simp[go_sem,b,j])
  have a3:K≠o:=Ar X 10 0 (by simp[go_sem,n]);have a4:K≠q:=Ar X 13 0 (by simp[go_sem]);refine Ac 1 fun _ _=>?_;simp only[go_sem];refine az (Ai ?_);have ar:(Dc p false e).vars.length≤1000000:=T.2.2.1;have S:=T.2.2.2;have ab:I3 e (x.args++c.targs)=(Dc p false e).vars.map (DS (AD (bdNs e) (x.args++c.targs))):=rfl;rw[ab] at P;have b3:e.vars.map encS++(e.sig.formals.map (·.name)).map encS=(bdNs e).map encS:=by unfold bdNs; rw[eC]
  have bb:x.args.map AC++c.targs.map AC=(x.args++c.targs).map AC:=by rw[eC]
  have b8:=U2 (bdNs e) (x.args++c.targs) ah R e.body L.2.2.2.2.2.2.2;have b2:=fun be hv=>LE p hp be hv s hs (Dk (bdNs e) (x.args++c.targs) e.body) (TN R _ L.2.2.2.2.2.2.2) (by rw[MB,ei]; exact aT) (fun _ hy Y=>by
   rw[MB] at hy;obtain ⟨z,hz,rfl⟩:=eh.1 hy;rw[I0] at Y ⊢;simp only[Ex.kind_mk,Ex.kids_mk] at Y ⊢;intro h;exact aU z hz Y (List.map_eq_nil_iff.1 h))
  clear T ak ai ab;generalize Dc p false e=C at *;generalize hU:x.args++c.targs=U at *;refine Ay (fun m st=>∃ k a H,(a≠l∧a≠o∧a≠q)∧k≤C.vars.length∧m=C.vars.length - k∧Le { env:=[(4,.ptr ⟨l,4,0⟩ 0),(5,.ptr ⟨l,5,0⟩ 0),(8,.ptr ⟨l,8,0⟩ 0),(10,.ptr ⟨o,10,0⟩ 0),(11,slS (bdNs e)),(12,slTy U),(13,.ptr ⟨q,13,0⟩ 0),(14,.own ⟨a,H,0⟩ k),(15,dN k)],σ:=[(⟨l,4,0⟩,.box 30 (prC p)),(⟨l,5,0⟩,.box 35 (isC s)),(⟨l,8,0⟩,.box 35 zIS),(⟨o,10,0⟩,.box 48 (deC e)),(⟨q,13,0⟩,.box 72 (cxC C)),(⟨a,H,0⟩,.arr 84 5 (((C.vars.take k).map (DS (AD (bdNs e) U))).map Bt))] } st) C.vars.length ?_ ?_
  ·refine ⟨0,K,0,⟨Z,a3,a4⟩,dX _,rfl,Ao ?_⟩;simp only[go_sem,zIS,b3,bb,b,b.symm,j,j.symm,n,n.symm,Z,Z.symm,a3,a3.symm,a4,a4.symm];all_goals first|trivial|omega
  ·rintro m st ⟨k,a,H,⟨ha0,ha4,ha7⟩,hk,rfl,af⟩;refine Az af ?_;clear af;refine Aa fun _ aA=>Aa fun _ a8=>?_;by_cases v:k < C.vars.length
   ·have aZ:=getM (f:=Bt) v;have ba:=QB (DS (AD (bdNs e) U)) v;have b1:((C.vars.take k).map (DS (AD (bdNs e) U))).length=k:=by rw[ei,eD]; omega
    have b7:=b4 _ (S _ (dP v)).2;generalize (C.vars.take k).map (DS (AD (bdNs e) U))=W at *;generalize C.vars[k]=Q at *;refine Ac 5 fun an aV=>?_;simp only[go_sem,v,j.symm,n.symm,ha7,zIS];refine a8 (Al (Ae (aA (Aa fun _ aB=>Ai (Aa fun _ aC=>Ac 7 fun I M=>?_)))));simp only[go_sem,aZ,j.symm,n.symm,ha7];refine aC (Aa fun _ aD=>?_);have B:I≠l:=Ar M 4 0 (by simp[go_sem]);have D:I≠o:=Ar M 10 0 (by simp[go_sem,b.symm]);have F:I≠q:=Ar M 13 0 (by simp[go_sem,j.symm,n.symm]);have O:I≠a:=Ar M H 0 (by simp[go_sem,ha0.symm,ha4.symm,ha7.symm])
    refine Am fun _ _ _ _ a5 aL=>Af 4 a5 ?_;simp only[go_sem,B.symm,D.symm,F.symm,O.symm];refine Ak a5 (b7 _ _) ?_;refine Ad 2 a5 ?_;simp only[go_sem,B.symm,D.symm,F.symm,O.symm];refine aL (aD (Am fun J V _ _ a6 aM=>Af 3 a6 ?_));simp only[go_sem,B.symm,D.symm,F.symm,O.symm];refine AG a6 rfl rfl rfl rfl rfl es42 sz84 by84 ze84 rfl (by decide) ?_;simp only[go_sem,b1,ha0.symm,ha4.symm,ha7.symm,O];first | refine ⟨⟨by omega,by omega⟩,?_⟩ | skip
    have a0:J≠l:=Ar V 4 0 (by simp[go_sem,B]);have a1:J≠o:=Ar V 10 0 (by simp[go_sem,b.symm,D]);have a2:J≠q:=Ar V 13 0 (by simp[go_sem,j.symm,n.symm,F]);refine Ad 1 a6 ?_;simp only[go_sem];refine aM (aB (Ac 3 fun _ _=>?_));simp only[go_sem,zIS];try simp (disch:=omega) only[Au]
    refine ⟨_,?_,k + 1,J,70,⟨a0,a1,a2⟩,v,rfl,Ao ?_⟩
    ·omega
    simp only[go_sem,ba,DS,b,b.symm,j,j.symm,n,n.symm,B,D,F,a0,a0.symm,a1,a1.symm,a2,a2.symm];all_goals first|trivial|omega
   ·have:k=C.vars.length:=by omega
    subst this;rw[eo];have b5:smCx (AN p (C.vars.map (DS (AD (bdNs e) U)))):=by
     refine ⟨hp,⟨by simp[AN],fun f hf=>by simp[AN] at hf⟩,by simp[AN]; exact ar,fun _ hq=>?_⟩;obtain ⟨r,hr,rfl⟩:=eh.1 hq;exact ⟨(S r hr).1,Bp R _ (S r hr).2⟩
    refine Ac 5 fun an aV=>?_;simp only[go_sem,v,j.symm,n.symm,ha7,zIS];refine a8 (Aj (Aq (ay (Aa fun _ aE=>?_))));refine Ch ⟨a,H,0⟩ ?_;simp only[go_sem,ha0.symm,ha4.symm,ha7.symm];refine AF 9 fun _ _ _ _ w aN=>Av 6 w ?_;simp only[go_sem,b,b.symm,j,n];refine Aw w (b8 _ _) ?_;refine Av 1 w ?_;simp only[go_sem];refine Aw w (b2 _ b5 _ _) ?_;refine Ap 0 w ?_;simp only[go_sem];refine Ad 1 w ?_;simp only[go_sem,b,j];refine aN (aE (Ah ?_));rw[P];refine Ag ?_;simp only[go_sem,b,j];exact Co.refl _
def Bg (s:ISet):Nat:=s.types.length + s.calls.length
set_option maxRecDepth 100000 in
theorem I4 (s:ISet) (h1:s.types.length≤1000000) (h2:s.calls.length≤1000000) (g d:Nat):ACalls E 10 [Ey s] [] g d (dN (Bg s)) []:=by
 refine Ax 10 Tryz.call10 Tryz.func10 ?_;simp only[go_sem];refine Aa fun _ a=>Ac 2 fun _ _=>?_;simp only[go_sem];refine a (Aa fun _ b=>Ac 8 fun _ _=>?_);simp only[go_sem];try simp (disch:=omega) only[Au]
 refine b (Ah (Ag ?_));simp only[go_sem];exact Co.of_eq (by simp[Bg])
def tgT (c:Cal):Ty:=.mk ByteArray.empty c.targs 0
def lrgT (s:ISet):Bool:=s.types.any fun t=>decide (60 < count t 0)
def lrgC (s:ISet):Bool:=s.calls.any fun c=>decide (60 < count (tgT c) 0)
def Fm (s:ISet):Bool:=lrgT s || (lrgC s || (s.large || decide (60 < Bg s)))
theorem VH {α:Type} {q:α→Bool} {l:List α} {k:Nat} (h:k < l.length):(l.drop k).any q=(q l[k] || (l.drop (k + 1)).any q):=by
 rw[ek h,List.any_cons]
set_option maxRecDepth 100000 in
set_option maxHeartbeats 1000000 in
theorem Sf (s:ISet) (hs:IOk s) (g d:Nat):ACalls E 22 [Ey s] [] g d (dB (Fm s)) []:=by
 have a5:=hs.tl;have a4:=hs.cl;have a1:=I4 s (by omega) (by omega);have b:Fm s=(lrgT s || (lrgC s || (s.large || decide (60 < Bg s)))):=rfl;unfold lrgT lrgC at b;refine Ax 42 Tryz.call22 Tryz.func22 ?_;simp only[go_sem];refine Aa fun _ J=>Ac 2 fun r _=>?_;simp only[go_sem];refine J (Aa fun _ O=>Aa fun _ P=>Ac 1 fun _ _=>?_);simp only[go_sem];refine P (Ai ?_)
 refine Ay (fun m q=>∃ k,k≤s.types.length∧m=s.types.length - k∧(s.types.any fun t=>decide (60 < count t 0))=((s.types.drop k).any fun t=>decide (60 < count t 0))∧Le { env:=[(1,.ptr ⟨r,1,0⟩ 0),(3,dN k)],σ:=[(⟨r,1,0⟩,.box 35 (isC s))] } q) s.types.length ?_ ?_
 ·refine ⟨0,dX _,rfl,rfl,Ao ?_⟩;simp only[go_sem];all_goals first|trivial|omega
 ·rintro m q ⟨k,Z,rfl,e,n⟩;refine Az n ?_;clear n;refine Aa fun _ Q=>Aa fun _ z=>?_;by_cases a:k < s.types.length
  ·have i:=@VH _ (fun t=>decide (60 < count t 0)) s.types k a;have u:=getM (f:=AC) a;have j:=DZ _ (hs.ts _ (dP a)).ok 0;generalize s.types[k]=X at *;refine Ac 5 fun H W=>?_;simp only[go_sem,a];refine z (Al (Ae (Q (Aa fun _ R=>Ai (Aa fun _ A=>Am fun _ _ _ _ o B=>Af 5 o ?_)))));simp only[go_sem,u];by_cases l:60 < count X 0
   ·have h:((60:Int) < ((count X 0:Nat):Int))=True:=eq_true (by omega);rw[e,i] at b;simp only[l,decide_true,gR] at b;refine AA o rfl rfl rfl (j _ _ (by omega)) (CoL.refl _) ?_;refine Ad 1 o ?_;simp only[go_sem,h];refine B (A (Al (Aa fun _ S=>Ac 1 fun _ _=>?_)));simp only[go_sem];refine S (Ah ?_);rw[b];refine Ag ?_;simp only[go_sem];exact Co.refl _
   ·have h:((60:Int) < ((count X 0:Nat):Int))=False:=eq_false (by omega);simp only[l,decide_false,fL] at i;refine AA o rfl rfl rfl (j _ _ (by omega)) (CoL.refl _) ?_;refine Ad 1 o ?_;simp only[go_sem,h];refine B (A (Aj (Ae (R (Ac 3 fun _ _=>?_)))));simp only[go_sem];try simp (disch:=omega) only[Au]
    refine ⟨_,?_,k + 1,a,rfl,e.trans i,Ao ?_⟩
    ·omega
    simp only[go_sem];all_goals first|trivial|omega
  ·have:k=s.types.length:=by omega
   subst this;rw[eY,List.any_nil] at e;rw[e,fL] at b;refine Ac 5 fun H W=>?_;simp only[go_sem,a];refine z (Aj (Aq (O (Aa fun _ T=>Aa fun _ K=>Ac 1 fun _ _=>?_))));simp only[go_sem];refine K (Ai ?_);refine Ay (fun m q=>∃ k,k≤s.calls.length∧m=s.calls.length - k∧(s.calls.any fun c=>decide (60 < count (tgT c) 0))=((s.calls.drop k).any fun c=>decide (60 < count (tgT c) 0))∧Le { env:=[(1,.ptr ⟨r,1,0⟩ 0),(4,dN k)],σ:=[(⟨r,1,0⟩,.box 35 (isC s))] } q) s.calls.length ?_ ?_
   ·refine ⟨0,dX _,rfl,rfl,Ao ?_⟩;simp only[go_sem];all_goals first|trivial|omega
   ·rintro m q ⟨k,Z,rfl,e,n⟩;refine Az n ?_;clear n;refine Aa fun _ L=>Aa fun _ w=>?_;by_cases a:k < s.calls.length
    ·have i:=@VH _ (fun c=>decide (60 < count (tgT c) 0)) s.calls k a;have u:=getM (f:=E8) a;have D:=hs.cs _ (dP a);generalize s.calls[k]=X at *;have j:=DZ (tgT X) (smTy.ok _ ((Bi _).2 ⟨by simp[tgT],D.2.2.1,D.2.2.2⟩)) 0;refine Ac 5 fun I Y=>?_;simp only[go_sem,a];refine w (Al (Ae (L (Aa fun _ M=>Ai (Aa fun _ x=>Am fun _ _ _ _ p C=>Af 7 p ?_)))));simp only[go_sem,u];by_cases l:60 < count (tgT X) 0
     ·have h:((60:Int) < ((count (tgT X) 0:Nat):Int))=True:=eq_true (by omega);rw[e,i] at b;simp only[l,decide_true,gR] at b;refine AA p rfl rfl rfl (j _ _ (by omega)) (CoL.refl _) ?_;refine Ad 1 p ?_;simp only[go_sem,h];refine C (x (Al (Aa fun _ N=>Ac 1 fun _ _=>?_)));simp only[go_sem];refine N (Ah ?_);rw[b];refine Ag ?_;simp only[go_sem];exact Co.refl _
     ·have h:((60:Int) < ((count (tgT X) 0:Nat):Int))=False:=eq_false (by omega);simp only[l,decide_false,fL] at i;refine AA p rfl rfl rfl (j _ _ (by omega)) (CoL.refl _) ?_;refine Ad 1 p ?_;simp only[go_sem,h];refine C (x (Aj (Ae (M (Ac 3 fun _ _=>?_)))));simp only[go_sem];try simp (disch:=omega) only[Au]
      refine ⟨_,?_,k + 1,a,rfl,e.trans i,Ao ?_⟩
      ·omega
      simp only[go_sem];all_goals first|trivial|omega
    ·have:k=s.calls.length:=by omega
     subst this;rw[eY,List.any_nil] at e;rw[e,fL] at b;refine Ac 5 fun I Y=>?_;simp only[go_sem,a];refine w (Aj (Aq (T (Aa fun _ y=>?_))));have a0:((60:Int) < ((Bg s:Nat):Int))=(60 < Bg s):=propext (by omega);obtain ⟨ST,SC,F⟩:=s;cases F with
     | true =>
      simp only[gR] at b;refine Ac 8 fun G V=>?_;simp only[go_sem];refine y (Ah ?_);rw[b];refine Ag ?_;simp only[go_sem];exact Co.refl _
     | false =>
      simp only[fL] at b;refine Am fun G V _ _ v U=>Af 4 v ?_;simp only[go_sem];refine Ak v (a1 _ _) ?_;refine Ad 3 v ?_;simp only[go_sem,a0];refine U (y (Ah ?_));rw[b];refine Ag ?_;simp only[go_sem];exact Co.refl _
noncomputable def putF (o:ISet) (f:Param):ISet:=putT o f.type
noncomputable def GQ (p:Prg) (out:ISet) (x:Ty):ISet:=if BN p x 1=true then (fldX p x).foldl putF out else out
noncomputable def putP (sg:Sig) (us:List Ty) (o:ISet) (q:Param):ISet:=putT o (AD (sg.formals.map (·.name)) us q.type)
noncomputable def FZ (p:Prg) (x:Ty) (sg:Sig) (out:ISet) (c:Cal):ISet :=
 bdOf p (putT (sg.params.foldl (putP sg c.targs) out) (AD (sg.formals.map (·.name)) c.targs sg.result)) x c
noncomputable def CP (p:Prg) (x:Ty) (l:List Sig) (out:ISet) (c:Cal):ISet :=
 match CL l c.name with
 | none=>out
 | some n=>if (l.getD n Bw).formals.length≠c.targs.length then out else if Dr p [] x c.on=true then FZ p x (l.getD n Bw) out c else out
noncomputable def FL (p:Prg) (cs:List Cal) (out:ISet) (x:Ty):ISet:=cs.foldl (CP p x (Bq p [] x)) (GQ p out x)
noncomputable def Eb (p:Prg) (s:ISet):ISet:=s.types.foldl (FL p s.calls) s
structure PrOk (p:Prg):Prop where
 sm:smPr p
 fm:Lg p
 pa:Sw p
 nb:∀ d∈p.decls,(AB d.body).length≤1000000
 kb:∀ d∈p.decls,d.kind=3→∀ x∈AB d.body,x.kind=2→x.kids≠[]
theorem EN {α:Type} {f:ISet→α→ISet}:∀ (l:List α) (s:ISet),IOk s→(∀ o a,a∈l→IOk o→IOk (f o a))→IOk (l.foldl f s)
 | [],_,h,_=>h
 | a :: l,_,h,hf=>EN l _ (hf _ a dY h) (fun o b hb ho=>hf o b (ea _ hb) ho)
theorem RE {p:Prg} (hp:smPr p) {out:ISet} (h:IOk out) {x:Ty} (hx:smTy x):IOk (GQ p out x):=by
 unfold GQ;split
 ·exact EN _ _ h fun _ f a b=>b.putT (Kg hp hx f a).2
 ·exact h
theorem abb {p:Prg} (hp:PrOk p) {s:ISet} (hs:IOk s) {x:Ty} (hx:smTy x) {c:Cal} (hc:Hw c):IOk (bdOf p s x c):=by
 unfold bdOf;cases f:GB p x c.name with
 | none=>exact hs
 | some e =>
  simp only;have b:e∈p.decls:=by
   unfold GB at f;obtain ⟨i,_,j⟩:=fj.1 f;exact ew j
  have d:=hp.sm.1.2 e b;have h:∀ t∈x.args++c.targs,smTy t:=fun t n=>(eu.1 n).elim (((Bi x).1 hx).2.2 t) (hc.2.2.2 t);have a:=Lh hp.sm false d (hp.fm e b).2 (by have:=hp.pa e b; omega);have l:smCx (AN p (I3 e (x.args++c.targs))):=by
   refine ⟨hp.sm,⟨by simp[AN],fun _ k=>by simp[AN] at k⟩,?_,fun _ m=>?_⟩
   ·simp only[AN,I3,ei];exact a.2.2.1
   ·obtain ⟨r,g,rfl⟩:=eh.1 m;exact ⟨(a.2.2.2 r g).1,Bp h _ (a.2.2.2 r g).2⟩
  exact HJ l _ _ hs (fun y o=>nodes_sm _ (TN h _ d.2.2.2.2.2.2.2) y o)
theorem Yj {p:Prg} (hp:PrOk p) {x:Ty} (hx:smTy x) {sg:Sig} (hsg:smSi sg) {out:ISet} (h:IOk out) {c:Cal} (hc:Hw c):IOk (FZ p x sg out c):=by
 unfold FZ;exact abb hp (IOk.putT (EN _ _ h fun _ q b a=>a.putT (Bp hc.2.2.2 _ (hsg.2.2.1.2 q b).2)) (Bp hc.2.2.2 _ hsg.2.2.2)) hx hc
theorem Lj {p:Prg} (hp:PrOk p) {x:Ty} (hx:smTy x) {l:List Sig} (hl:∀ s∈l,smSi s) {out:ISet} (h:IOk out) {c:Cal} (hc:Hw c):IOk (CP p x l out c):=by
 unfold CP;cases b:CL l c.name with
 | none=>exact h
 | some n =>
  simp only;have a:=Gn b;have d:l.getD n Bw=l[n]:=by rw[fl,dO a]; rfl
  rw[d];split
  ·exact h
  ·split
   ·exact Yj hp hx (hl _ (dP a)) h hc
   ·exact h
theorem TT {p:Prg} (hp:PrOk p) {cs:List Cal} (hcs:∀ c∈cs,Hw c) {out:ISet} (h:IOk out) {x:Ty} (hx:smTy x):IOk (FL p cs out x):=by
 unfold FL;exact EN _ _ (RE hp.sm h hx) fun _ c a d=>Lj hp hx (Ha (env:=[]) hp.sm (fun _ b=>nomatch b) hx).2 d (hcs c a)
theorem OF {p:Prg} (hp:PrOk p) {s:ISet} (h:IOk s):IOk (Eb p s):=by
 unfold Eb;exact EN _ _ h fun _ x b a=>TT hp h.cs a (h.ts x b)
end Go.Proofs.T
