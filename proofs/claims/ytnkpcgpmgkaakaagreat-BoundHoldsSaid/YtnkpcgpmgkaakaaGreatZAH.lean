/- A part of the proof: ZAH. -/
import Derived.Test.YtnkpcgpmgkaakaaGreatZAG
import Derived.Shelf.Strconv.Itoa3
import Derived.Shelf.Spec.SlicesGrow
import Derived.Ground.NamesProg
import Derived.Ground.Names7Prog
import Derived.Shelf.SlSortCmp.NoneTotal
import Derived.Ground.SlsfProg
import Derived.Test.YtnkpcgpmgkaakaaGreatProg
import Derived.Lib.ItoaLen
namespace Go.Proofs.T
open Go Go.Ab Go.RowKit
/- All lengths are small. -/
mutual
def smTy:Ty→Prop
 | .mk n a _=>n.size≤1000000∧a.length≤1000000∧Pm a
def Pm:List Ty→Prop
 | []=>True
 | t :: r=>smTy t∧Pm r
end
theorem Q7:∀ l,Pm l↔∀ t∈l,smTy t
 | []=>by simp[Pm]
 | t :: r=>by simp[Pm,Q7 r]
theorem Bi (t:Ty):smTy t↔t.name.size≤1000000∧t.args.length≤1000000∧∀ x∈t.args,smTy x:=by
 cases t;simp[smTy,Q7]
theorem smTy.ok (t:Ty):smTy t→okTy t:=by
 revert t
 refine Ty.ind fun t ih h=>?_;obtain ⟨c,d,b⟩:=(Bi t).1 h;exact (DJ t).2 ⟨by omega,by omega,fun x a=>ih x a (b x a)⟩
def isS (n:Str) (x:Str):Bool:=decide (x=n)
def look (ns:List Str) (us:List Ty) (n:Str):Option Ty:=(ns.findIdx? (isS n)).bind fun i=>us[i]?
mutual
def AD (ns:List Str) (us:List Ty):Ty→Ty
 | .mk n xs p=>match xs.isEmpty,look ns us n with
  | true,some t=>.mk t.name t.args p
  | _,_=>.mk n (IF ns us xs) p
def IF (ns:List Str) (us:List Ty):List Ty→List Ty
 | []=>[]
 | t :: r=>AD ns us t :: IF ns us r
end
theorem Nx (ns:List Str) (us:List Ty):∀ l,IF ns us l=l.map (AD ns us)
 | []=>by simp[IF]
 | t :: r=>by simp[IF,Nx ns us r]
theorem EY (ns:List Str) (us:List Ty) (t:Ty):AD ns us t=match t.args.isEmpty,look ns us t.name with
  | true,some u=>.mk u.name u.args t.pos
  | _,_=>.mk t.name (t.args.map (AD ns us)) t.pos:=by
 cases t;rw[AD];simp only[Nx,Ty.name_mk,Ty.args_mk,Ty.pos_mk]
theorem Hp:∀ t:Ty,AD [] [] t=t:=by
 refine Ty.ind fun t ih=>?_;rw[EY];have:t.args.map (AD [] [])=t.args:=by
  conv=>rhs; rw[← List.map_id t.args]
  exact gW fun x a=>by rw[ih x a]; rfl
 simp[look,this,Ty.eta]
theorem Bp {ns:List Str} {us:List Ty} (ha:∀ x∈us,smTy x) (t:Ty):smTy t→smTy (AD ns us t):=by
 revert t
 refine Ty.ind fun t ih h=>?_;obtain ⟨e,f,g⟩:=(Bi t).1 h;rw[EY];split
 ·rename_i u _ a;have j:u∈us:=by
   unfold look at a;cases b:ns.findIdx? (isS t.name) with
   | none=>rw[b] at a; cases a
   | some i=>rw[b] at a; exact ew a
  have:=(Bi u).1 (ha u j);exact (Bi _).2 this
 ·refine (Bi _).2 ⟨e,by simpa using f,fun x c=>?_⟩;simp only[Ty.args_mk,eh] at c;obtain ⟨y,d,rfl⟩:=c;exact ih y d (g y d)
def optI:Option Nat→Int
 | some k=>k
 | none=>-1
def optD (o:Option Nat):D:=dI (optI o)
theorem MX {α:Type} (p:α→Bool) (l:List α) (k:Nat) (h:k < l.length):(l.drop k).findIdx? p=if p l[k] then some 0 else ((l.drop (k + 1)).findIdx? p).map (· + 1):=by
 rw[MT l k h,List.findIdx?_cons]
theorem UC (l:List Str) (n:Str) (hl:l.length≤9223372036854775807) (g d:Nat):ACalls E 160 [slS l,encS n] [] g d (optD (l.findIdx? (isS n))) []:=by
 refine Ax 19 Tryz.call160 Tryz.func160 ?_;simp only[go_sem];refine Aa fun _ j=>Ac 1 fun _ _=>?_;simp only[go_sem];refine j (Aa fun _ q=>Aa fun _ r=>Ac 3 fun _ _=>?_);simp only[go_sem];refine r (Ai ?_);refine Ay (fun m s=>∃ k,k≤l.length∧m=l.length - k∧l.findIdx? (isS n)=((l.drop k).findIdx? (isS n)).map (· + k) ∧
   Le { env:=[(0,slS l),(1,encS n),(6,slS l),(7,dN l.length),(8,dN k)],σ:=[] } s) l.length ?_ ?_
 ·refine ⟨0,dX _,rfl,by simp,Ao ?_⟩;simp only[go_sem];trivial
 ·rintro m s ⟨k,B,rfl,a,e⟩;refine Az e ?_;clear e;by_cases h:k < l.length
  ·rw[MX _ _ _ h] at a;refine Aa fun _ t=>Ac 1 fun f z=>?_;simp only[go_sem,h];refine t (Aa fun _ u=>Al (Ae (u (Aa fun _ v=>Ai (Aa fun _ w=>Ac 2 fun _ _=>?_)))));simp only[go_sem];refine w (Aa fun _ c=>?_);by_cases b:l[k]=n
   ·rw[if_pos (by simp[isS,b])] at a;refine Ac 6 fun i A=>?_;simp only[go_sem,getM h,b];refine c (Al (Aa fun _ x=>Ac 2 fun _ _=>?_));simp only[go_sem];refine x (Ah ?_);rw[a];refine Ag ?_;simp only[go_sem];exact Co.of_eq (by simp[optD,optI])
   ·rw[if_neg (by simp[isS,b])] at a;have y : ¬ n=l[k]:=fun h=>b h.symm;refine Ac 6 fun i A=>?_;simp only[go_sem,getM h,y];refine c (Aj (Ae (v (Ac 2 fun _ _=>?_))));simp only[go_sem];try simp (disch:=omega) only[Au]
    refine ⟨_,?_,k + 1,h,rfl,?_,Ao ?_⟩
    ·omega
    ·rw[a]; simp[gp,fq,gq,f5]
    simp only[go_sem];omega
  ·rw[DF l k (by omega)] at a;refine Aa fun _ o=>Ac 1 fun f z=>?_;simp only[go_sem,h];refine o (Aa fun _ _=>Aj (Aq (q (Aa fun _ p=>Ac 1 fun _ _=>?_))));simp only[go_sem];refine p (Ah ?_);rw[a];refine Ag ?_;simp only[go_sem];exact Co.of_eq (by simp[optD,optI])
theorem L7 (f:Ty→Ty) (ns:List Str) (us l:List Ty) (hl:l.length≤1000000) (h:∀ t∈l,∀ g d,ACalls E 141 [AC t,slS ns,slTy us] [] g d (AC (f t)) []) (g d:Nat) :
  ACalls E 161 [slTy l,slS ns,slTy us] [] g d (slTy (l.map f)) []:=by
 refine Ax 25 Tryz.call161 Tryz.func161 ?_;simp only[go_sem];refine Aa fun _ r=>Ac 1 fun _ _=>?_;simp only[go_sem];refine r (Aa fun _ v=>Ac 1 fun _ _=>?_);simp only[go_sem];refine v (Aa fun _ w=>Aa fun _ x=>Ac 3 fun _ _=>?_);simp only[go_sem];refine x (Ai ?_);refine Bh 7 25 3 rfl fun q _=>?_;refine Ay (fun m s=>∃ k a i,k≤l.length∧m=l.length - k ∧
   Le { env:=[(1,slS ns),(2,slTy us),(10,slTy l),(11,dN l.length),(12,dN k),(7,.own ⟨a,i,0⟩ k)],σ:=[(⟨a,i,0⟩,.arr 25 3 ((l.take k).map fun t=>AC (f t)))] } s) l.length ?_ ?_
 ·refine ⟨0,q,0,dX _,rfl,Ao ?_⟩;simp only[go_sem];trivial
 ·rintro m s ⟨k,a,i,H,rfl,e⟩;refine Az e ?_;clear e;by_cases b:k < l.length
  ·refine Aa fun _ y=>Ac 1 fun n F=>?_;simp only[go_sem,b];refine y (Aa fun _ z=>Al (Ae (z (Aa fun _ A=>Ai (Aa fun _ B=>Ac 4 fun o G=>?_)))));simp only[go_sem,getM b];refine B ?_;have j:o≠a:=Ar G i 0 (by simp[go_sem]);refine Am fun p _ _ _ c D=>Af 4 c ?_;simp only[go_sem,j.symm];refine Ak c (h _ (dP b) _ _) ?_;refine Af 1 c ?_;simp only[go_sem];refine AG c rfl rfl rfl rfl rfl es23 sz25 by25 ze25 rfl (by decide) ?_;simp only[go_sem,eG (ga b),j];first | refine ⟨⟨by omega,by omega⟩,?_⟩ | skip
   refine Ad 1 c ?_;simp only[go_sem];refine D (A (Ac 2 fun _ _=>?_));simp only[go_sem];try simp (disch:=omega) only[Au]
   refine ⟨_,?_,k + 1,p,22,b,rfl,Ao ?_⟩
   ·omega
   simp only[go_sem,← HW _ b];omega
  ·refine Aa fun _ C=>Ac 1 fun n F=>?_;simp only[go_sem,b];refine C (Aa fun _ _=>Aj (Aq (w (Aa fun _ u=>Ac 2 fun _ _=>?_))));simp only[go_sem];refine u (Ah ?_);have:k=l.length:=by omega
   subst this;refine AY ⟨a,i,0⟩ ?_;simp only[go_sem];refine Ag ?_;simp only[go_sem];exact Co.of_eq (by simp[fq])
theorem Wj (ns:List Str) (us:List Ty) (hns:ns.length≤1000000) (hc:∀ t∈us,∀ g d,ACalls E 109 [AC t] [] g d (AC t) []) (t:Ty) (ht:smTy t)
  (ih:∀ x∈t.args,∀ g d,ACalls E 141 [AC x,slS ns,slTy us] [] g d (AC (AD ns us x)) []) (g d:Nat) :
  ACalls E 141 [AC t,slS ns,slTy us] [] g d (AC (AD ns us t)) []:=by
 obtain ⟨U,n,V⟩:=(Bi t).1 ht;have key:(t.args.length=0∧∃ i u,ns.findIdx? (isS t.name)=some i∧∃ h:i < us.length,us[i]=u∧AD ns us t=.mk u.name u.args t.pos) ∨
   ((t.args.length=0→∀ i,ns.findIdx? (isS t.name)=some i→¬ i < us.length)∧AD ns us t=.mk t.name (t.args.map (AD ns us)) t.pos):=by
  rw[EY];unfold look;cases W:t.args with
  | nil =>
   cases v:ns.findIdx? (isS t.name) with
   | none=>right; simp
   | some i =>
    by_cases A:i < us.length
    ·left; simp[A]
    ·right; simp[A]; omega
  | cons y X=>right; simp
 refine Ax 43 Tryz.call141 Tryz.func141 ?_;simp only[go_sem];refine Aa fun _ F=>Ac 2 fun _ _=>?_;simp only[go_sem];refine F (Aa fun _ j=>Aa fun _ K=>Am fun _ _ _ _ l Q=>Af 3 l ?_);simp only[go_sem];refine AA l rfl rfl rfl (UC _ _ (by omega) _ _) (CoL.refl _) ?_;refine Ad 1 l ?_;simp only[go_sem];refine Q (K (Aa fun _ e=>?_));rcases key with ⟨o,i,u,c,p,S,T⟩ | ⟨o,c⟩
 ·rw[c];have h0:(0:Int)≤i:=by omega
  refine Ac 14 fun f k=>?_;simp only[go_sem,optD,optI,o,gr,h0,p];refine e (Al (Aa fun _ L=>Am fun _ _ _ _ m R=>Af 4 m ?_));simp only[go_sem,getM p];refine Ak m (hc _ (dP p) _ _) ?_;refine Ad 2 m ?_;simp only[go_sem];refine R (L (Aa fun _ M=>Ac 4 fun _ _=>?_));simp only[go_sem];refine M (Aa fun _ N=>Ac 2 fun _ _=>?_);simp only[go_sem];refine N (Ah ?_);rw[T,← S];refine Ag ?_;simp only[go_sem];exact Co.refl _
 ·by_cases h0:t.args.length=0
  ·cases v:ns.findIdx? (isS t.name) with
   | none =>
    refine Ac 14 fun f k=>?_;simp only[go_sem,optD,optI,h0,gr];refine e (Aj (Ae (j (Aa fun _ O=>Am fun r w B q a b=>Af 4 a ?_))));simp only[go_sem];refine Ak a (L7 _ ns us _ n ih _ _) ?_;refine Ad 2 a ?_;simp only[go_sem];refine b (O (Aa fun _ P=>Ac 2 fun s z=>?_));simp only[go_sem];refine P (Ah ?_);rw[c];refine Ag ?_;simp only[go_sem];exact Co.refl _
   | some i =>
    have C:(0:Int)≤i:=by omega
    have D:¬ i < us.length:=o h0 i v;refine Ac 14 fun f k=>?_;simp only[go_sem,optD,optI,h0,C,D,gr];refine e (Aj (Ae (j (Aa fun _ G=>Am fun r w B q a b=>Af 4 a ?_))));simp only[go_sem];refine Ak a (L7 _ ns us _ n ih _ _) ?_;refine Ad 2 a ?_;simp only[go_sem];refine b (G (Aa fun _ H=>Ac 2 fun s z=>?_));simp only[go_sem];refine H (Ah ?_);rw[c];refine Ag ?_;simp only[go_sem];exact Co.refl _
  ·refine Ac 14 fun f k=>?_;simp only[go_sem,h0,gr];refine e (Aj (Ae (j (Aa fun _ I=>Am fun r w B q a b=>Af 4 a ?_))));simp only[go_sem];refine Ak a (L7 _ ns us _ n ih _ _) ?_;refine Ad 2 a ?_;simp only[go_sem];refine b (I (Aa fun _ J=>Ac 2 fun s z=>?_));simp only[go_sem];refine J (Ah ?_);rw[c];refine Ag ?_;simp only[go_sem];exact Co.refl _
theorem XB:∀ (t:Ty),smTy t→∀ g d,ACalls E 141 [AC t,slS [],slTy []] [] g d (AC t) []:=by
 refine Ty.ind fun t ih a g d=>?_;have:=Wj [] [] (by simp) (fun t a=>by cases a) t a (fun x b g d=>by rw[Hp]; exact ih x b (((Bi t).1 a).2.2 x b) g d) g d;rwa [Hp] at this
theorem UD (t:Ty) (ht:smTy t) (g d:Nat):ACalls E 109 [AC t] [] g d (AC t) []:=by
 refine Ax 5 Tryz.call109 Tryz.func109 ?_;simp only[go_sem];refine Aa fun _ b=>Ac 2 fun _ _=>?_;simp only[go_sem];refine b (Aa fun _ c=>Am fun _ _ _ _ a e=>Af 1 a ?_);simp only[go_sem];refine AA a rfl rfl rfl (XB t ht _ _) (.cons (.refl _) (.cons (.nil _) (.cons (.nil _) .nil))) ?_;refine Ad 1 a ?_;simp only[go_sem];refine e (c (Ah (Ag ?_)));simp only[go_sem];exact Co.refl _
theorem Q8 {ns:List Str} {us:List Ty} {n:Str} {i:Nat} (h:ns.findIdx? (isS n)=some i) (hi:i < us.length):look ns us n=some us[i]:=by simp[look,h,hi]
theorem Q9 {ns:List Str} {us:List Ty} {n:Str} (h:ns.findIdx? (isS n)=none):look ns us n=none:=by simp[look,h]
theorem XC {ns:List Str} {us:List Ty} {n:Str} {i:Nat} (h:ns.findIdx? (isS n)=some i) (hi:¬ i < us.length):look ns us n=none:=by simp[look,h]; omega
theorem UE {ns:List Str} {us:List Ty} {t u:Ty} (h0:t.args.length=0) (h:look ns us t.name=some u):AD ns us t=.mk u.name u.args t.pos:=by
 rw[EY,h]; simp[ex h0]
theorem IG {ns:List Str} {us:List Ty} {t:Ty} (h:t.args.length=0→look ns us t.name=none):AD ns us t=.mk t.name (t.args.map (AD ns us)) t.pos:=by
 rw[EY];cases a:t.args with
 | nil=>rw[h (by simp[a])]; rfl
 | cons x y=>rfl
theorem S3 {ns:List Str} {us:List Ty} {t:Ty} (h0:t.args.length=0) (h:look ns us t.name=none):AD ns us t=t:=by
 rw[IG fun _=>h]
 conv=>rhs; rw[← Ty.eta t]
 simp[ex h0]
theorem Lu (ns:List Str) (us:List Ty) (hns:ns.length≤1000000) (hc:∀ t∈us,∀ g d,ACalls E 51 [AC t,slS [],slTy []] [] g d (AC t) []) (t:Ty) (ht:smTy t)
  (ih:∀ x∈t.args,∀ g d,ACalls E 51 [AC x,slS ns,slTy us] [] g d (AC (AD ns us x)) []) (g d:Nat) :
  ACalls E 51 [AC t,slS ns,slTy us] [] g d (AC (AD ns us t)) []:=by
 obtain ⟨aH,aI,aJ⟩:=(Bi t).1 ht;refine Ax 70 Tryz.call51 Tryz.func51 ?_;simp only[go_sem];refine Aa fun _ a2=>Ac 2 fun b _=>?_;simp only[go_sem];refine a2 (Aa fun _ H=>Aa fun _ aj=>Ac 1 fun _ _=>?_);simp only[go_sem];refine aj (Ai ?_);refine Ay (fun m s=>∃ k,k≤ns.length∧m=ns.length - k∧ns.findIdx? (isS t.name)=((ns.drop k).findIdx? (isS t.name)).map (· + k) ∧
   Le { env:=[(1,slS ns),(2,slTy us),(3,.ptr ⟨b,3,0⟩ 0),(6,.ptr ⟨b,6,0⟩ 0),(7,dN k)],σ:=[(⟨b,3,0⟩,.box 25 (tyC t)),(⟨b,6,0⟩,.box 25 [.val (.string ByteArray.empty),.val (.slice none 0 0),dI 0])] } s) ns.length ?_ ?_
 ·refine ⟨0,dX _,rfl,by simp,Ao ?_⟩;simp only[go_sem,tyC];trivial
 ·rintro m s ⟨k,K,rfl,u,n⟩;refine Az n ?_;clear n;by_cases h0:t.args.length=0
  ·by_cases h:k < ns.length
   ·rw[MX _ _ _ h] at u;refine Aa fun _ av=>Aa fun _ aA=>Ac 10 fun F J=>?_;simp only[go_sem,tyC,h,h0,gr];refine aA (Al (Ae (av (Aa fun _ aB=>Ai (Aa fun _ S=>?_)))));by_cases C:ns[k]=t.name
    ·rw[if_pos (by simp[isS,C])] at u;refine AE fun g4 aE aG Z L I=>Ap 7 L ?_;simp only[go_sem,getM h,C];refine I (S (Al (Aa fun _ aC=>Aa fun _ T=>?_)));by_cases D:k < us.length
     ·have y:=UE h0 (Q8 (us:=us) (by simpa using u) D);have G:¬ ((us.length:Int)≤k):=by omega
      refine Ac 4 fun g5 aF=>?_;simp only[go_sem,G];refine T (Aj (Ae (aC (Aa fun _ a3=>Am fun _ _ _ _ M aD=>Af 4 M ?_))));simp only[go_sem,getM D];refine AA M rfl rfl rfl (hc _ (dP D) _ _) (.cons (.refl _) (.cons (.nil _) (.cons (.nil _) .nil))) ?_;refine Ad 2 M ?_;simp only[go_sem];refine aD (a3 (Aa fun _ a4=>Ac 4 fun _ _=>?_));simp only[go_sem];refine a4 (Aa fun _ a5=>Ac 2 fun _ _=>?_);simp only[go_sem];refine a5 (Ah ?_);rw[y];refine Ag ?_;simp only[go_sem];exact Co.refl _
     ·have y:=S3 (us:=us) h0 (XC (by simpa using u) D);have G:((us.length:Int)≤k):=by omega
      refine Ac 4 fun g5 aF=>?_;simp only[go_sem,G];refine T (Al (Aa fun _ a6=>Ac 2 fun _ _=>?_));simp only[go_sem];refine a6 (Ah ?_);rw[y];refine Ag ?_;simp only[go_sem];exact Co.refl _
    ·rw[if_neg (by simp[isS,C])] at u;refine AE fun g4 aE aG Z L I=>Ap 7 L ?_;simp only[go_sem,getM h,C];refine I (S (Aj (Ae (aB (Ac 3 fun _ _=>?_)))));simp only[go_sem];try simp (disch:=omega) only[Au]
     refine ⟨_,?_,k + 1,h,rfl,?_,Ao ?_⟩
     ·omega
     ·rw[u]; simp[gp,fq,gq,f5]
     simp only[go_sem,tyC];omega
   ·rw[DF ns k (by omega)] at u;have y:=IG (us:=us) (fun _=>Q9 (by simpa using u));refine Aa fun _ _=>Aa fun _ a7=>Ac 10 fun F J=>?_;simp only[go_sem,tyC,h];refine a7 (Aj (Aq (H (Aa fun _ a8=>Ac 7 fun e U=>?_))));simp only[go_sem];refine a8 (Aa fun _ a9=>Aa fun _ aa=>Ac 1 fun O V=>?_);simp only[go_sem];refine aa (Ai ?_);refine Di ⟨e,9,0⟩ 1 25 3 ?_;simp only[go_sem];intro l w;have o:l≠e:=Ar w 9 0 (by simp[go_sem]);refine Ay (fun m s=>∃ k a i,k≤t.args.length∧m=t.args.length - k∧a≠b∧a≠e ∧
      Le { env:=[(1,slS ns),(2,slTy us),(3,.ptr ⟨b,3,0⟩ 0),(6,.ptr ⟨b,6,0⟩ 0),(9,.ptr ⟨e,9,0⟩ 0),(10,dN k)],σ:=[(⟨b,3,0⟩,.box 25 (tyC t)),(⟨b,6,0⟩,.box 25 [.val (.string ByteArray.empty),.val (.slice none 0 0),dI 0]),(⟨e,9,0⟩,.box 25 [.val (.string t.name),.own ⟨a,i,0⟩ k,.val (.int .i64 t.pos)]),(⟨a,i,0⟩,.arr 25 3 ((t.args.take k).map fun t=>AC (AD ns us t)))] } s) t.args.length ?_ ?_
    ·have r:l≠b:=Ar w 3 0 (by simp[go_sem]);refine ⟨0,l,0,dX _,rfl,r,o,Ao ?_⟩;simp only[go_sem,tyC,o,r,o.symm,r.symm];trivial
    ·rintro m s ⟨k,a,i,K,rfl,ha0,ha10,n⟩;refine Az n ?_;clear n;by_cases c:k < t.args.length
     ·refine Aa fun _ ab=>Aa fun _ ac=>Ac 5 fun z B=>?_;simp only[go_sem,c,tyC,ha0];refine ac (Al (Ae (ab (Aa fun _ ad=>Ai (AF 11 fun j v Y N f A=>Av 9 f ?_)))));simp only[go_sem,getM c,ha0,ha10];refine Aw f (ih _ (dP c) _ _) ?_;refine Ap 1 f ?_;simp only[go_sem];refine Af 0 f ?_;simp only[go_sem];refine AG f rfl rfl rfl rfl rfl es23 sz25 by25 ze25 rfl (by decide) ?_;simp only[go_sem,eG (ga c),ha0.symm,ha10.symm];first | refine ⟨⟨by omega,by omega⟩,?_⟩ | skip
      refine Ad 2 f ?_;simp only[go_sem];refine A (ad ?_);have p:j≠b:=Ar v 3 0 (by simp[go_sem]);have q:j≠e:=Ar v 9 0 (by simp[go_sem]);refine Ac 3 fun P W=>?_;simp only[go_sem,tyC];try simp (disch:=omega) only[Au]
      refine ⟨_,?_,k + 1,j,67,c,rfl,p,q,Ao ?_⟩
      ·omega
      simp only[go_sem,← HW _ c,p,p.symm,q,q.symm];omega
     ·refine Aa fun _ _=>Aa fun _ ae=>Ac 5 fun z B=>?_;simp only[go_sem,c,tyC,ha0];refine ae (Aj (Aq (a9 (Aa fun _ af=>Ac 2 fun Q X=>?_))));simp only[go_sem,ha0,ha10];refine af (Ah ?_);have:k=t.args.length:=by omega
      subst this;rw[y];refine AY ⟨a,i,0⟩ ?_;simp only[go_sem,ha0.symm,ha10.symm];refine Ag ?_;simp only[go_sem];exact Co.of_eq (by rw[C0]; simp[tyC,fq])
  ·have y:=IG (ns:=ns) (us:=us) (fun h=>absurd h h0);refine Aa fun _ _=>Aa fun _ R=>?_;by_cases h:k < ns.length
   ·refine Ac 10 fun F J=>?_;simp only[go_sem,tyC,h,h0,gr];refine R (Aj (Aq (H (Aa fun _ ag=>Ac 7 fun e U=>?_))));simp only[go_sem];refine ag (Aa fun _ ah=>Aa fun _ ai=>Ac 1 fun O V=>?_);simp only[go_sem];refine ai (Ai ?_);refine Di ⟨e,9,0⟩ 1 25 3 ?_;simp only[go_sem];intro l w;have o:l≠e:=Ar w 9 0 (by simp[go_sem]);refine Ay (fun m s=>∃ k a i,k≤t.args.length∧m=t.args.length - k∧a≠b∧a≠e ∧
      Le { env:=[(1,slS ns),(2,slTy us),(3,.ptr ⟨b,3,0⟩ 0),(6,.ptr ⟨b,6,0⟩ 0),(9,.ptr ⟨e,9,0⟩ 0),(10,dN k)],σ:=[(⟨b,3,0⟩,.box 25 (tyC t)),(⟨b,6,0⟩,.box 25 [.val (.string ByteArray.empty),.val (.slice none 0 0),dI 0]),(⟨e,9,0⟩,.box 25 [.val (.string t.name),.own ⟨a,i,0⟩ k,.val (.int .i64 t.pos)]),(⟨a,i,0⟩,.arr 25 3 ((t.args.take k).map fun t=>AC (AD ns us t)))] } s) t.args.length ?_ ?_
    ·have r:l≠b:=Ar w 3 0 (by simp[go_sem]);refine ⟨0,l,0,dX _,rfl,r,o,Ao ?_⟩;simp only[go_sem,tyC,o,r,o.symm,r.symm];trivial
    ·rintro m s ⟨k,a,i,K,rfl,ha0,ha10,n⟩;refine Az n ?_;clear n;by_cases c:k < t.args.length
     ·refine Aa fun _ ak=>Aa fun _ al=>Ac 5 fun z B=>?_;simp only[go_sem,c,tyC,ha0];refine al (Al (Ae (ak (Aa fun _ am=>Ai (AF 11 fun j v Y N f A=>Av 9 f ?_)))));simp only[go_sem,getM c,ha0,ha10];refine Aw f (ih _ (dP c) _ _) ?_;refine Ap 1 f ?_;simp only[go_sem];refine Af 0 f ?_;simp only[go_sem];refine AG f rfl rfl rfl rfl rfl es23 sz25 by25 ze25 rfl (by decide) ?_;simp only[go_sem,eG (ga c),ha0.symm,ha10.symm];first | refine ⟨⟨by omega,by omega⟩,?_⟩ | skip
      refine Ad 2 f ?_;simp only[go_sem];refine A (am ?_);have p:j≠b:=Ar v 3 0 (by simp[go_sem]);have q:j≠e:=Ar v 9 0 (by simp[go_sem]);refine Ac 3 fun P W=>?_;simp only[go_sem,tyC];try simp (disch:=omega) only[Au]
      refine ⟨_,?_,k + 1,j,67,c,rfl,p,q,Ao ?_⟩
      ·omega
      simp only[go_sem,← HW _ c,p,p.symm,q,q.symm];omega
     ·refine Aa fun _ _=>Aa fun _ an=>Ac 5 fun z B=>?_;simp only[go_sem,c,tyC,ha0];refine an (Aj (Aq (ah (Aa fun _ ao=>Ac 2 fun Q X=>?_))));simp only[go_sem,ha0,ha10];refine ao (Ah ?_);have:k=t.args.length:=by omega
      subst this;rw[y];refine AY ⟨a,i,0⟩ ?_;simp only[go_sem,ha0.symm,ha10.symm];refine Ag ?_;simp only[go_sem];exact Co.of_eq (by rw[C0]; simp[tyC,fq])
   ·refine Ac 10 fun F J=>?_;simp only[go_sem,tyC,h];refine R (Aj (Aq (H (Aa fun _ ap=>Ac 7 fun e U=>?_))));simp only[go_sem];refine ap (Aa fun _ aq=>Aa fun _ ar=>Ac 1 fun O V=>?_);simp only[go_sem];refine ar (Ai ?_);refine Di ⟨e,9,0⟩ 1 25 3 ?_;simp only[go_sem];intro l w;have o:l≠e:=Ar w 9 0 (by simp[go_sem]);refine Ay (fun m s=>∃ k a i,k≤t.args.length∧m=t.args.length - k∧a≠b∧a≠e ∧
      Le { env:=[(1,slS ns),(2,slTy us),(3,.ptr ⟨b,3,0⟩ 0),(6,.ptr ⟨b,6,0⟩ 0),(9,.ptr ⟨e,9,0⟩ 0),(10,dN k)],σ:=[(⟨b,3,0⟩,.box 25 (tyC t)),(⟨b,6,0⟩,.box 25 [.val (.string ByteArray.empty),.val (.slice none 0 0),dI 0]),(⟨e,9,0⟩,.box 25 [.val (.string t.name),.own ⟨a,i,0⟩ k,.val (.int .i64 t.pos)]),(⟨a,i,0⟩,.arr 25 3 ((t.args.take k).map fun t=>AC (AD ns us t)))] } s) t.args.length ?_ ?_
    ·have r:l≠b:=Ar w 3 0 (by simp[go_sem]);refine ⟨0,l,0,dX _,rfl,r,o,Ao ?_⟩;simp only[go_sem,tyC,o,r,o.symm,r.symm];trivial
    ·rintro m s ⟨k,a,i,K,rfl,ha0,ha10,n⟩;refine Az n ?_;clear n;by_cases c:k < t.args.length
     ·refine Aa fun _ au=>Aa fun _ aw=>Ac 5 fun z B=>?_;simp only[go_sem,c,tyC,ha0];refine aw (Al (Ae (au (Aa fun _ ax=>Ai (AF 11 fun j v Y N f A=>Av 9 f ?_)))));simp only[go_sem,getM c,ha0,ha10];refine Aw f (ih _ (dP c) _ _) ?_;refine Ap 1 f ?_;simp only[go_sem];refine Af 0 f ?_;simp only[go_sem];refine AG f rfl rfl rfl rfl rfl es23 sz25 by25 ze25 rfl (by decide) ?_;simp only[go_sem,eG (ga c),ha0.symm,ha10.symm];first | refine ⟨⟨by omega,by omega⟩,?_⟩ | skip
      refine Ad 2 f ?_;simp only[go_sem];refine A (ax ?_);have p:j≠b:=Ar v 3 0 (by simp[go_sem]);have q:j≠e:=Ar v 9 0 (by simp[go_sem]);refine Ac 3 fun P W=>?_;simp only[go_sem,tyC];try simp (disch:=omega) only[Au]
      refine ⟨_,?_,k + 1,j,67,c,rfl,p,q,Ao ?_⟩
      ·omega
      simp only[go_sem,← HW _ c,p,p.symm,q,q.symm];omega
     ·refine Aa fun _ _=>Aa fun _ ay=>Ac 5 fun z B=>?_;simp only[go_sem,c,tyC,ha0];refine ay (Aj (Aq (aq (Aa fun _ az=>Ac 2 fun Q X=>?_))));simp only[go_sem,ha0,ha10];refine az (Ah ?_);have:k=t.args.length:=by omega
      subst this;rw[y];refine AY ⟨a,i,0⟩ ?_;simp only[go_sem,ha0.symm,ha10.symm];refine Ag ?_;simp only[go_sem];exact Co.of_eq (by rw[C0]; simp[tyC,fq])
theorem S4:∀ (t:Ty),smTy t→∀ g d,ACalls E 51 [AC t,slS [],slTy []] [] g d (AC t) []:=by
 refine Ty.ind fun t ih a g d=>?_;have:=Lu [] [] (by simp) (fun t a=>by cases a) t a (fun x b g d=>by rw[Hp]; exact ih x b (((Bi t).1 a).2.2 x b) g d) g d;rwa [Hp] at this
theorem BB (ns:List Str) (us:List Ty) (hns:ns.length≤1000000) (hus:∀ x∈us,smTy x):∀ (t:Ty),smTy t→∀ g d,ACalls E 51 [AC t,slS ns,slTy us] [] g d (AC (AD ns us t)) []:=by
 refine Ty.ind fun t ih a g d=>?_;exact Lu ns us hns (fun u c=>S4 u (hus u c)) t a (fun x b=>ih x b (((Bi t).1 a).2.2 x b)) g d
def smFm (f:Formal):Prop:=f.name.size≤1000000∧smTy f.bound
def smPa (f:Param):Prop:=f.name.size≤1000000∧smTy f.type
def smSi (s:Sig):Prop:=s.name.size≤1000000∧(s.formals.length≤1000000∧∀ f∈s.formals,smFm f)∧(s.params.length≤1000000∧∀ f∈s.params,smPa f)∧smTy s.result
def Ji (f:Ty→Ty) (x:Formal):Formal:=⟨x.name,f x.bound,x.pos⟩
def DS (f:Ty→Ty) (x:Param):Param:=⟨x.name,f x.type,x.pos⟩
def CT (f:Ty→Ty) (s:Sig):Sig:=⟨s.name,s.formals.map (Ji f),s.params.map (DS f),f s.result,s.pos⟩
def HY (g d:Nat) (s:Sig):D:=.agg [.val (.string s.name),.own ⟨g,d,1⟩ s.formals.length,.own ⟨g,d,2⟩ s.params.length,.val (.string s.result.name),.sl false (s.result.args.map AC),.val (.int .i64 s.result.pos),.val (.int .i64 s.pos)]
def Hq (g d:Nat) (s:Sig):Sto:=[(⟨g,d,1⟩,.arr 92 5 (s.formals.map Bz)),(⟨g,d,2⟩,.arr 84 5 (s.params.map Bt))]
def zSi:List D:=[.val (.string ByteArray.empty),.val (.slice none 0 0),.val (.slice none 0 0),.val (.string ByteArray.empty),.val (.slice none 0 0),dI 0,dI 0]
theorem HQ (ns:List Str) (us:List Ty) (hns:ns.length≤1000000) (hus:∀ x∈us,smTy x) (s:Sig) (hs:smSi s) (g d:Nat) :
    ACalls E 130 [AH s,slS ns,slTy us] [] g d (HY g d (CT (AD ns us) s)) (Hq g d (CT (AD ns us) s)):=by
  obtain ⟨h1,⟨h2,h3⟩,⟨h4,h5⟩,h6⟩:=hs;generalize hr:HY g d (CT (AD ns us) s)=R;generalize hw:Hq g d (CT (AD ns us) s)=W;refine Ax 71 Tryz.call130 Tryz.func130 ?_;simp only[go_sem];refine Aa fun _ a9=>Ac 2 fun c _=>?_;simp only[go_sem];refine a9 (Aa fun _ ai=>AF 11 fun h _ _ _ F au=>Av 8 F ?_);simp only[go_sem];refine Aw F (BB ns us hns hus _ h6 _ _) ?_;refine Ap 2 F ?_;simp only[go_sem];refine Ad 1 F ?_;simp only[go_sem];refine au (ai (Aa fun _ al=>Aa fun _ am=>Ac 1 fun _ _=>?_));simp only[go_sem];refine am (Ai ?_);refine Di ⟨h,7,0⟩ 1 92 5 ?_;simp only[go_sem];intro I a3
  have P:I≠h:=Ar a3 7 0 (by simp[go_sem]);have Q:I≠c:=Ar a3 3 0 (by simp[go_sem]);refine Ay (fun m w=>∃ k a i,k≤s.formals.length∧m=s.formals.length - k∧a≠c∧a≠h ∧
      Le { env:=[(1,slS ns),(2,slTy us),(3,.ptr ⟨c,3,0⟩ 0),(6,.ptr ⟨c,6,0⟩ 0),(7,.ptr ⟨h,7,0⟩ 0),(8,dN k)],
           σ:=[(⟨c,3,0⟩,.box 46 (siC s)),(⟨c,6,0⟩,.box 46 zSi),
             (⟨h,7,0⟩,.box 46 [.val (.string s.name),.own ⟨a,i,0⟩ k,.val (.slice none 0 0),.val (.string (AD ns us s.result).name),.sl false ((AD ns us s.result).args.map AC),.val (.int .i64 (AD ns us s.result).pos),.val (.int .i64 s.pos)]),
             (⟨a,i,0⟩,.arr 92 5 ((s.formals.take k).map fun f=>Bz (Ji (AD ns us) f)))] } w) s.formals.length ?_ ?_
  · refine ⟨0,I,0,dX _,rfl,Q,P,Ao ?_⟩;simp only[go_sem,zSi,P,Q,P.symm,Q.symm];trivial
  · rintro m w ⟨k,a,i,hk,rfl,ha0,ha1,r⟩;refine Az r ?_;clear r;by_cases e:k < s.formals.length
    · refine Aa fun _ an=>Aa fun _ ao=>Ac 5 fun g3 az=>?_;simp only[go_sem,e,ha0,zSi,Ji];refine ao (Al (Ae (an (Aa fun _ ap=>Ai (Aa fun _ aq=>Ac 7 fun G K=>?_)))));simp only[go_sem,getM e,ha0];refine aq (Aa fun _ ar=>?_);have D:G≠a:=Ar K i 0 (by simp[go_sem,ha0.symm,ha1.symm]);have v:G≠c:=Ar K 3 0 (by simp[go_sem]);have o:G≠h:=Ar K 7 0 (by simp[go_sem]);refine Am fun _ _ _ _ a0 ax=>Af 4 a0 ?_;simp only[go_sem,D.symm,v.symm,o.symm];refine Ak a0 (BB ns us hns hus _ (h3 _ (dP e)).2 _ _) ?_;refine Ad 2 a0 ?_;simp only[go_sem,D.symm,v.symm,o.symm]
      refine ax (ar (Am fun H a2 _ _ a1 ay=>Af 4 a1 ?_));simp only[go_sem,ha1,D.symm,v.symm,o,o.symm];refine AG a1 rfl rfl rfl rfl rfl es41 sz92 by92 ze92 rfl (by decide) ?_;simp only[go_sem,eG (ga e),ha0.symm,ha1.symm,D];first | refine ⟨⟨by omega,by omega⟩,?_⟩ | skip
      refine Ad 2 a1 ?_;simp only[go_sem,o];refine ay (ap ?_);have V:H≠c:=Ar a2 3 0 (by simp[go_sem,v]);have X:H≠h:=Ar a2 7 0 (by simp[go_sem,o]);refine Ac 3 fun _ _=>?_;simp only[go_sem,zSi,Ji];try simp (disch:=omega) only[Au]
      refine ⟨_,?_,k + 1,H,44,e,rfl,V,X,Ao ?_⟩
      · omega
      simp only[go_sem,← HW _ e,v,o,V,V.symm,X,X.symm];omega
    · refine Aa fun _ _=>Aa fun _ aa=>Ac 5 fun g3 az=>?_;simp only[go_sem,e,ha0,zSi];refine aa (Aj (Aq (al (Aa fun _ ab=>Aa fun _ ac=>?_))));have:k=s.formals.length:=by omega
      subst this;refine Ac 1 fun _ _=>?_;simp only[go_sem];refine ac (Ai ?_);refine Di ⟨h,7,0⟩ 2 84 5 ?_;simp only[go_sem,ha1];intro A L;have M:A≠h:=Ar L 7 0 (by simp[go_sem]);have N:A≠c:=Ar L 3 0 (by simp[go_sem]);have O:A≠a:=Ar L i 0 (by simp[go_sem,ha0.symm,ha1.symm]);refine Ay (fun m w=>∃ k b j,k≤s.params.length∧m=s.params.length - k∧b≠c∧b≠h∧b≠a ∧
          Le { env:=[(1,slS ns),(2,slTy us),(3,.ptr ⟨c,3,0⟩ 0),(6,.ptr ⟨c,6,0⟩ 0),(7,.ptr ⟨h,7,0⟩ 0),(10,dN k)],
               σ:=[(⟨c,3,0⟩,.box 46 (siC s)),(⟨c,6,0⟩,.box 46 zSi),
                 (⟨h,7,0⟩,.box 46 [.val (.string s.name),.own ⟨a,i,0⟩ s.formals.length,.own ⟨b,j,0⟩ k,.val (.string (AD ns us s.result).name),.sl false ((AD ns us s.result).args.map AC),.val (.int .i64 (AD ns us s.result).pos),.val (.int .i64 s.pos)]),
                 (⟨b,j,0⟩,.arr 84 5 ((s.params.take k).map fun f=>Bt (DS (AD ns us) f))),
                 (⟨a,i,0⟩,.arr 92 5 (s.formals.map fun f=>Bz (Ji (AD ns us) f)))] } w) s.params.length ?_ ?_
      · refine ⟨0,A,0,dX _,rfl,N,M,O,Ao ?_⟩;simp only[go_sem,zSi,ha0,ha1,ha0.symm,ha1.symm,zSi,M,N,O,M.symm,N.symm,O.symm];trivial
      · rintro m w ⟨k,b,j,hk,rfl,l,p,q,r⟩;refine Az r ?_;clear r;by_cases e:k < s.params.length
        · refine Aa fun _ ad=>Aa fun _ ae=>Ac 5 fun g9 aA=>?_;simp only[go_sem,ha0,zSi,l,DS,e];refine ae (Al (Ae (ad (Aa fun _ af=>Ai (Aa fun _ ag=>Ac 7 fun y B=>?_)))));simp only[go_sem,getM e,ha0,l];refine ag (Aa fun _ ah=>?_);have t:y≠a:=Ar B i 0 (by simp[go_sem,ha0.symm,ha1.symm,q]);have C:y≠b:=Ar B j 0 (by simp[go_sem,l.symm,p.symm]);have u:y≠c:=Ar B 3 0 (by simp[go_sem]);have n:y≠h:=Ar B 7 0 (by simp[go_sem]);refine Am fun _ _ _ _ Y av=>Af 4 Y ?_;simp only[go_sem,t.symm,C.symm,u.symm,n.symm]
          refine Ak Y (BB ns us hns hus _ (h5 _ (dP e)).2 _ _) ?_;refine Ad 2 Y ?_;simp only[go_sem,t.symm,C.symm,u.symm,n.symm];refine av (ah (Am fun z J _ _ Z aw=>Af 4 Z ?_));simp only[go_sem,ha1,p,t.symm,C.symm,u.symm,n,n.symm];refine AG Z rfl rfl rfl rfl rfl es42 sz84 by84 ze84 rfl (by decide) ?_;simp only[go_sem,l.symm,p.symm,q.symm,eG (ga e),C];first | refine ⟨⟨by omega,by omega⟩,?_⟩ | skip
          refine Ad 2 Z ?_;simp only[go_sem,ha1,n];refine aw (af ?_);have T:z≠c:=Ar J 3 0 (by simp[go_sem,u]);have U:z≠h:=Ar J 7 0 (by simp[go_sem,n]);have S:z≠a:=Ar J i 0 (by simp[go_sem,ha0.symm,ha1.symm,q,t]);refine Ac 3 fun _ _=>?_;simp only[go_sem,zSi,DS];try simp (disch:=omega) only[Au]
          refine ⟨_,?_,k + 1,z,68,e,rfl,T,U,S,Ao ?_⟩
          · omega
          simp only[go_sem,← HW _ e,ha0,ha1,ha0.symm,ha1.symm,t,u,n,T,T.symm,U,U.symm,S,S.symm];omega
        · refine Aa fun _ _=>Aa fun _ aj=>Ac 5 fun g9 aA=>?_;simp only[go_sem,e,ha0,zSi,l,DS];refine aj (Aj (Aq (ab (Aa fun _ ak=>?_))));have:k=s.params.length:=by omega
          subst this;refine Ac 2 fun _ _=>?_;simp only[go_sem,ha0,ha1,l,p];refine ak (Ah ?_);subst hr hw;refine DK [⟨a,i,0⟩,⟨b,j,0⟩] rfl ?_;simp only[go_sem,Hq,CT,fB,ha0,ha0.symm,ha1.symm,l,q,l.symm,p.symm,q.symm];exact ⟨⟨rfl,rfl⟩,Co.of_eq (by simp[HY])⟩
end Go.Proofs.T
namespace Go.Proofs
open Go.Shelf
def Tryz.layGrowTy_ren:Go.Shelf.Ren:=⟨fun | 4=>140 | n=>n,fun | 22=>23 | 25=>25 | 3=>3 | 4=>4 | 9=>9 | 20=>20 | 0=>0 | n=>n,fun | n=>n⟩
theorem Tryz.layGrowTy:Go.Proofs.Lays8.n4 Tryz.prog Tryz.layGrowTy_ren:={
 mixed:=by kernel_rfl
 f4:=⟨Tryz.f140.name,by decide,Tryz.func140.trans (congrArg some (by kernel_rfl))⟩
 t0:=Tryz.underlying0
 a0:=Tryz.isAgg0
 z0:=Tryz.sizeOf0
 v0:=Tryz.zeroValue0
 t3:=Tryz.underlying3
 a3:=Tryz.isAgg3
 z3:=Tryz.sizeOf3
 v3:=Tryz.zeroValue3
 t4:=Tryz.underlying4
 a4:=Tryz.isAgg4
 z4:=Tryz.sizeOf4
 v4:=Tryz.zeroValue4
 t9:=Tryz.underlying9
 a9:=Tryz.isAgg9
 z9:=Tryz.sizeOf9
 v9:=Tryz.zeroValue9
 t20:=Tryz.underlying20
 a20:=Tryz.isAgg20
 z20:=Tryz.sizeOf20
 v20:=Tryz.zeroValue20
 t22:=Tryz.underlying23
 a22:=Tryz.isAgg23
 z22:=Tryz.sizeOf23
 v22:=Tryz.zeroValue23 }
def Tryz.laySortNode_ren:Go.Shelf.Ren:=⟨fun | 6=>100 | 15=>135 | 14=>134 | 28=>156 | 29=>157 | 20=>148 | 21=>149 | 22=>150 | 23=>151 | 24=>152 | 25=>153 | 26=>154 | 27=>155 | 46=>167 | 47=>168 | 48=>169 | 49=>170 | 50=>171 | 57=>175 | n=>n,fun | 22=>96 | 24=>139 | 25=>143 | 3=>3 | 39=>179 | 0=>0 | 53=>199 | 55=>101 | 4=>4 | 46=>193 | 45=>192 | 50=>116 | 5=>5 | 9=>9 | 66=>207 | 70=>211 | 76=>215 | 77=>216 | n=>n,fun | n=>n⟩
theorem Tryz.laySortNode:Go.Proofs.SlLaysF0.n6 Tryz.prog Tryz.laySortNode_ren:={
 mixed:=by kernel_rfl
 f6:=⟨Tryz.f100.name,by decide,Tryz.func100.trans (congrArg some (by kernel_rfl))⟩
 f14:=⟨Tryz.f134.name,by decide,Tryz.func134.trans (congrArg some (by kernel_rfl))⟩
 f15:=Tryz.func135.trans (congrArg some (by kernel_rfl))
 f20:=⟨Tryz.f148.name,by decide,Tryz.func148.trans (congrArg some (by kernel_rfl))⟩
 f21:=⟨Tryz.f149.name,by decide,Tryz.func149.trans (congrArg some (by kernel_rfl))⟩
 f22:=⟨Tryz.f150.name,by decide,Tryz.func150.trans (congrArg some (by kernel_rfl))⟩
 f23:=⟨Tryz.f151.name,by decide,Tryz.func151.trans (congrArg some (by kernel_rfl))⟩
 f24:=⟨Tryz.f152.name,by decide,Tryz.func152.trans (congrArg some (by kernel_rfl))⟩
 f25:=⟨Tryz.f153.name,by decide,Tryz.func153.trans (congrArg some (by kernel_rfl))⟩
 f26:=⟨Tryz.f154.name,by decide,Tryz.func154.trans (congrArg some (by kernel_rfl))⟩
 f27:=⟨Tryz.f155.name,by decide,Tryz.func155.trans (congrArg some (by kernel_rfl))⟩
 f28:=Tryz.func156.trans (congrArg some (by kernel_rfl))
 f29:=Tryz.func157.trans (congrArg some (by kernel_rfl))
 f46:=⟨Tryz.f167.name,by decide,Tryz.func167.trans (congrArg some (by kernel_rfl))⟩
 f47:=Tryz.func168.trans (congrArg some (by kernel_rfl))
 f48:=Tryz.func169.trans (congrArg some (by kernel_rfl))
 f49:=⟨Tryz.f170.name,by decide,Tryz.func170.trans (congrArg some (by kernel_rfl))⟩
 f50:=⟨Tryz.f171.name,by decide,Tryz.func171.trans (congrArg some (by kernel_rfl))⟩
 f57:=⟨Tryz.f175.name,by decide,Tryz.func175.trans (congrArg some (by kernel_rfl))⟩
 t0:=Tryz.underlying0
 a0:=Tryz.isAgg0
 z0:=Tryz.sizeOf0
 v0:=Tryz.zeroValue0
 t3:=Tryz.underlying3
 a3:=Tryz.isAgg3
 z3:=Tryz.sizeOf3
 v3:=Tryz.zeroValue3
 t4:=Tryz.underlying4
 a4:=Tryz.isAgg4
 z4:=Tryz.sizeOf4
 v4:=Tryz.zeroValue4
 t5:=Tryz.underlying5
 a5:=Tryz.isAgg5
 z5:=Tryz.sizeOf5
 v5:=Tryz.zeroValue5
 t9:=Tryz.underlying9
 a9:=Tryz.isAgg9
 z9:=Tryz.sizeOf9
 v9:=Tryz.zeroValue9
 t22:=Tryz.underlying96
 a22:=Tryz.isAgg96
 z22:=Tryz.sizeOf96
 v22:=Tryz.zeroValue96
 t25:=Tryz.underlying143
 a25:=Tryz.isAgg143
 z25:=Tryz.sizeOf143
 v25:=Tryz.zeroValue143
 t39:=Tryz.underlying179
 a39:=Tryz.isAgg179
 z39:=Tryz.sizeOf179
 v39:=Tryz.zeroValue179
 t45:=Tryz.underlying192
 a45:=Tryz.isAgg192
 z45:=Tryz.sizeOf192
 v45:=Tryz.zeroValue192
 t46:=Tryz.underlying193
 a46:=Tryz.isAgg193
 z46:=Tryz.sizeOf193
 v46:=Tryz.zeroValue193
 t50:=Tryz.underlying116
 a50:=Tryz.isAgg116
 z50:=Tryz.sizeOf116
 v50:=Tryz.zeroValue116
 t53:=Tryz.underlying199
 a53:=Tryz.isAgg199
 z53:=Tryz.sizeOf199
 v53:=Tryz.zeroValue199
 t55:=Tryz.underlying101
 a55:=Tryz.isAgg101
 z55:=Tryz.sizeOf101
 v55:=Tryz.zeroValue101
 t66:=Tryz.underlying207
 a66:=Tryz.isAgg207
 z66:=Tryz.sizeOf207
 v66:=Tryz.zeroValue207
 t70:=Tryz.underlying211
 a70:=Tryz.isAgg211
 z70:=Tryz.sizeOf211
 v70:=Tryz.zeroValue211
 t76:=Tryz.underlying215
 a76:=Tryz.isAgg215
 z76:=Tryz.sizeOf215
 v76:=Tryz.zeroValue215
 t77:=Tryz.underlying216
 a77:=Tryz.isAgg216
 z77:=Tryz.sizeOf216
 v77:=Tryz.zeroValue216 }
end Go.Proofs
namespace Go.Proofs

end Go.Proofs
namespace Go.Proofs.T
open Go Go.Ab Go.RowKit
def decS (u:Nat):Str:=⟨(Lib.decDigits u).toArray⟩
theorem Jj (u:Nat) (h:u≤9223372036854775807):(decS u).size≤20:=by
 have a:(decS u).size=(Lib.decDigits u).length:=by simp[decS,ByteArray.size]
 rw[a,Lib.decDigits_length];exact Lib.nDigits_le20 u (by omega)
theorem Wk {u:Nat} (h:u < 10):strOfNums [48 + (u:Int)]=decS u:=by
 unfold decS;rw[Lib.decDigits,dif_pos h];simp only[strOfNums,eM,f9]
 congr 3
theorem Za {u:Nat} (h:¬ u < 10):decS (u / 10)++strOfNums [48 + ((u:Int) % 10)]=decS u:=by
 unfold decS
 conv=>rhs; rw[Lib.decDigits,dif_neg h]
 simp only[strOfNums,eM,f9];apply ByteArray.ext;simp only[ByteArray.data_append];rw[← List.append_toArray]
 congr 4
set_option maxRecDepth 100000 in
theorem RZ:∀ (u:Nat),u≤9223372036854775807→∀ g d,ACalls E 166 [dN u] [] g d (encS (decS u)) []:=by
 intro u;induction u using Nat.strongRecOn with
 | _ u ih =>
  intro p g d;refine Ax 20 Tryz.call166 Tryz.func166 ?_;simp only[go_sem];refine Aa fun _ i=>Ac 1 fun _ _=>?_;simp only[go_sem];refine i (Aa fun _ j=>Aa fun _ e=>?_);by_cases h:u < 10
  ·have b : (u:Int) < 10:=by omega
   refine Ac 2 fun f n=>?_;simp only[go_sem,b];refine e (Al (Aa fun _ k=>Ac 6 fun _ _=>?_));simp only[go_sem];try simp (disch:=omega) only[Au,Ba]
   refine k (Ah ?_);rw[← Wk h];refine Ag ?_;simp only[go_sem];exact Co.refl _
  ·have b : ¬ (u:Int) < 10:=by omega
   have c:(decS (u / 10)).size + (strOfNums [48 + (u:Int) % 10]).size≤9223372036854775807:=by
    have:=Jj (u / 10) (by omega);have o:(strOfNums [48 + (u:Int) % 10]).size=1:=strOfNums_size _;omega
   refine Ac 2 fun f n=>?_;simp only[go_sem,b];refine e (Aj (Ae (j (Aa fun _ l=>AF 10 fun _ _ _ _ a m=>Av 2 a ?_))));simp only[go_sem];try simp (disch:=omega) only[Au,dZ]
   refine AI a rfl rfl rfl (ih (u / 10) (by omega) (by omega) _ _) (CoL.refl _) rfl ?_;refine Ap 7 a ?_;simp only[go_sem];try simp (disch:=omega) only[Au,Ba,ed]
   try simp only[go_sem,c]
   try simp (disch:=omega) only[Au,Ba,dZ,ed]
   refine Ad 1 a ?_;simp only[go_sem];try simp only[go_sem,c]
   refine m (l (Ah ?_));rw[← Za h];refine Ag ?_;simp only[go_sem];exact Co.refl _
def CQ (u:Nat):Str:=⟨#[36]⟩++decS u
set_option maxRecDepth 100000 in
theorem Qm (u:Nat) (hu:u≤9223372036854775807) (g d:Nat):ACalls E 147 [dN u] [] g d (encS (CQ u)) []:=by
 have h0:¬ (u:Int) < 0:=by omega
 have b:1 + (decS u).size≤9223372036854775807:=by
  have:=Jj u hu;omega
 refine Ax 8 Tryz.call147 Tryz.func147 ?_;simp only[go_sem];refine Aa fun _ c=>Ac 1 fun _ _=>?_;simp only[go_sem];refine c (Aa fun _ e=>Aa fun _ f=>Ac 2 fun _ _=>?_);simp only[go_sem,h0];refine f (Aj (Ae (e (Aa fun _ h=>Am fun _ _ _ _ a i=>Af 1 a ?_))));simp only[go_sem];refine Ak a (RZ u hu _ _) ?_;refine Ad 2 a ?_;simp only[go_sem,b];try simp (disch:=omega) only[Au,Ba,dZ,ed]
 refine i (h (Ah (Ag ?_)));simp only[go_sem];exact Co.refl _
def HZ (i:Nat):Ty:=⟨CQ i,[],0⟩
def Eo (n:Nat):List Ty:=(List.range n).map HZ
def MY (i:Nat) (f:Formal):Formal:=⟨CQ i,f.bound,f.pos⟩
def L8 (p:Param):Param:=⟨⟨#[]⟩,p.type,p.pos⟩
def ownF (s:Sig):Ty→Ty:=AD (s.formals.map (·.name)) (Eo s.formals.length)
def BH (s:Sig):Sig:=⟨s.name,(s.formals.map (Ji (ownF s))).mapIdx MY,(s.params.map (DS (ownF s))).map L8,ownF s s.result,s.pos⟩
theorem aac {n:Nat} (hn:n≤1000000):∀ t∈Eo n,smTy t:=by
 intro t a;simp only[Eo,eh,fE] at a;obtain ⟨i,b,rfl⟩:=a;have:=Jj i (by omega);refine (Bi _).2 ⟨?_,by simp[HZ],by simp[HZ]⟩
 show (CQ i).size≤_;have h:(CQ i).size=1 + (decS i).size:=by simp[CQ,ByteArray.size_append]; rfl
 omega
def Pn (i:Nat):D:=.agg [.val (.string (CQ i)),.val (.slice none 0 0),dI 0]
theorem ab0 (n:Nat):Co (.sl false ((List.range n).map Pn)) (slTy (Eo n)):=by
 unfold slTy Eo;rw[fB];refine Co.map _ (fun h=>h) fun _ _=>?_;simp only[Function.comp,JE,HZ,Ty.name_mk,Ty.args_mk,Ty.pos_mk,Pn,f9];exact .cons (.refl _) (.cons (.nil _) (.cons (.refl _) .nil))
def upTo (k i:Nat) (f:Formal):D:=Bz (if i < k then MY i f else f)
def upP (k i:Nat) (f:Param):D:=Bt (if i < k then L8 f else f)
theorem IH {α β:Type} (f:Nat→α→β) (h:α→β) (l:List α) (hf:∀ i a,l[i]?=some a→f i a=h a):l.mapIdx f=l.map h:=by
 apply gx;intro i;simp only[io,eK];cases b:l[i]? with
 | none=>rfl
 | some a=>simp[hf i a b]
theorem XD (l:List Formal):l.mapIdx (upTo 0)=l.map Bz:=IH _ _ _ fun _ _ _=>by simp[upTo]
theorem Zb (l:List Param):l.mapIdx (upP 0)=l.map Bt:=IH _ _ _ fun _ _ _=>by simp[upP]
theorem Zc (l:List Formal):l.mapIdx (upTo l.length)=(l.mapIdx MY).map Bz:=by
 apply gx;intro i;simp only[io,eK];cases b:l[i]? with
 | none=>rfl
 | some a=>simp[upTo,(dW.1 b).1]
theorem aaz (l:List Param):l.mapIdx (upP l.length)=(l.map L8).map Bt:=by
 rw[fB];exact IH _ _ _ fun _ _ a=>by simp[upP,(dW.1 a).1]
theorem Zd (l:List Formal) (k:Nat) (h:k < l.length):(l.mapIdx (upTo k))[k]?=some (Bz l[k]):=by rw[aab _ _ _ h]; simp[upTo]
theorem aaA (l:List Param) (k:Nat) (h:k < l.length):(l.mapIdx (upP k))[k]?=some (Bt l[k]):=by rw[aab _ _ _ h]; simp[upP]
theorem Ze (l:List Formal) (k:Nat) (h:k < l.length):(l.mapIdx (upTo k)).set k (Bz (MY k l[k]))=l.mapIdx (upTo (k + 1)) :=
 Pk upTo l k _ (fun a ha=>by rw[dO h] at ha; cases ha; simp[upTo]) (fun i a _=>by
  unfold upTo;by_cases h:i < k
  ·rw[if_pos h,if_pos (by omega)]
  ·rw[if_neg h,if_neg (by omega)])
theorem aaB (l:List Param) (k:Nat) (h:k < l.length):(l.mapIdx (upP k)).set k (Bt (L8 l[k]))=l.mapIdx (upP (k + 1)) :=
 Pk upP l k _ (fun a ha=>by rw[dO h] at ha; cases ha; simp[upP]) (fun i a _=>by
  unfold upP;by_cases h:i < k
  ·rw[if_pos h,if_pos (by omega)]
  ·rw[if_neg h,if_neg (by omega)])
theorem Wl (n k:Nat) (h:k < n):((Eo n).map AC)[k]?=some (AC (HZ k)):=by
 unfold Eo;rw[fB,eK,gU h]
 rfl
theorem Qn (s:Sig) (hs:smSi s) (g d:Nat):ACalls E 131 [AH s] [] g d (HY g d (BH s)) (Hq g d (BH s)):=by
  have ab:=hs;obtain ⟨h1,⟨n,h3⟩,⟨h4,h5⟩,h6⟩:=hs;generalize hr:HY g d (BH s)=R;generalize hw:Hq g d (BH s)=W;refine Ax 57 Tryz.call131 Tryz.func131 ?_;simp only[go_sem];refine Aa fun _ A=>Ac 2 fun e _=>?_;simp only[go_sem];refine A (Aa fun _ N=>Ac 1 fun _ _=>?_);simp only[go_sem];refine N (Aa fun _ U=>Aa fun _ V=>Ac 1 fun _ _=>?_);simp only[go_sem];refine V (Ai ?_);refine Bh 3 25 3 rfl fun u a9=>?_;have q:u≠e:=Ar a9 1 0 (by simp[go_sem]);refine Ay (fun m h=>∃ k a i,k≤s.formals.length∧m=s.formals.length - k∧a≠e ∧
      Le { env:=[(1,.ptr ⟨e,1,0⟩ 0),(2,.ptr ⟨e,2,0⟩ 0),(3,.own ⟨a,i,0⟩ k),(4,dN k)],
           σ:=[(⟨e,1,0⟩,.box 46 (siC s)),(⟨e,2,0⟩,.box 46 zSi),(⟨a,i,0⟩,.arr 25 3 ((List.range k).map Pn))] } h) s.formals.length ?_ ?_
  · refine ⟨0,u,0,dX _,rfl,q,Ao ?_⟩;simp only[go_sem,zSi,q,q.symm];trivial
  · rintro m h ⟨k,a,i,v,rfl,ha0,f⟩;refine Az f ?_;clear f;by_cases b:k < s.formals.length
    · refine Aa fun _ X=>Aa fun _ Y=>Ac 5 fun y a6=>?_;simp only[go_sem,ha0,zSi,b];refine Y (Al (Ae (X (Aa fun _ Z=>Ai (Am fun t a7 _ _ l a2=>Af 2 l ?_)))));simp only[go_sem];refine AA l rfl rfl rfl (Qm k (by omega) _ _) (CoL.refl _) ?_;refine Af 2 l ?_;simp only[go_sem];refine AG l rfl rfl rfl rfl rfl es23 sz25 by25 ze25 rfl (by decide) ?_;simp only[go_sem,ha0.symm,List.length_range];first | refine ⟨⟨by omega,by omega⟩,?_⟩ | skip
      refine Ad 1 l ?_;simp only[go_sem];refine a2 (Z ?_);have r:t≠e:=Ar a7 1 0 (by simp[go_sem]);refine Ac 3 fun _ _=>?_;simp only[go_sem,zSi];try simp (disch:=omega) only[Au]
      refine ⟨_,?_,k + 1,t,20,b,rfl,r,Ao ?_⟩
      · omega
      simp only[go_sem,Pn,r,r.symm];omega
    · refine Aa fun _ _=>Aa fun _ a0=>Ac 5 fun y a6=>?_;simp only[go_sem,b,ha0,zSi];refine a0 (Aj (Aq (U (Aa fun _ B=>?_))));have:k=s.formals.length:=by omega
      subst this;refine Ch ⟨a,i,0⟩ ?_;simp only[go_sem,ha0.symm];refine Pj 3 (slTy (Eo s.formals.length)) ?_;simp only[go_sem];refine ⟨ab0 _,?_⟩;refine AF 7 fun c _ _ _ j a3=>Av 3 j ?_;simp only[go_sem];refine Aw j (BA _ n _ _) ?_;refine Av 1 j ?_;simp only[go_sem];refine AI j rfl rfl rfl (HQ _ _ (by simpa using n) (aac n) s ab _ _) (CoL.refl _) (by simp[nwOk,Hq]) ?_;refine Ap 1 j ?_;simp only[go_sem,HY,Hq,CT];refine Ad 1 j ?_;simp only[go_sem];refine a3 (B (Aa fun _ C=>Aa fun _ D=>Ac 1 fun _ _=>?_));simp only[go_sem];refine D (Ai ?_);generalize o:s.formals.map (Ji (ownF s))=L
      generalize p:s.params.map (DS (ownF s))=M;have a4:L.length=s.formals.length:=by rw[← o]; simp
      have ai:M.length=s.params.length:=by rw[← p]; simp
      refine Ay (fun m h=>∃ k,k≤L.length∧m=L.length - k ∧
          Le { env:=[(2,.ptr ⟨e,2,0⟩ 0),(3,slTy (Eo s.formals.length)),(5,.ptr ⟨c,5,0⟩ 0),(6,dN k)],
               σ:=[(⟨e,2,0⟩,.box 46 zSi),
                 (⟨c,5,0⟩,.box 46 [.val (.string s.name),.own ⟨c,26,1⟩ L.length,.own ⟨c,26,2⟩ M.length,.val (.string (ownF s s.result).name),.sl false ((ownF s s.result).args.map AC),.val (.int .i64 (ownF s s.result).pos),.val (.int .i64 s.pos)]),
                 (⟨c,26,1⟩,.arr 92 5 (L.mapIdx (upTo k))),(⟨c,26,2⟩,.arr 84 5 (M.map Bt))] } h) L.length ?_ ?_
      · refine ⟨0,dX _,rfl,Ao ?_⟩;subst o p;simp only[go_sem,ownF,XD,zSi];trivial
      · rintro m h ⟨k,v,rfl,f⟩;refine Az f ?_;clear f;by_cases b:k < L.length
        · refine Aa fun _ F=>Aa fun _ G=>Ac 5 fun z a8=>?_;simp only[go_sem,zSi,b];refine G (Al (Ae (F (Aa fun _ H=>Ai (AF 10 fun _ _ _ _ w a1=>Ap 10 w ?_)))));simp only[go_sem,Wl _ _ (a4 ▸ b),HZ,b];refine Ad 1 w ?_;simp only[go_sem,Zd _ _ b];refine a1 (H (Ac 3 fun _ _=>?_));simp only[go_sem,zSi];try simp (disch:=omega) only[Au]
          refine ⟨_,?_,k + 1,b,rfl,Ao ?_⟩
          · omega
          simp only[go_sem,← Ze _ _ b,MY];omega
        · refine Aa fun _ _=>Aa fun _ I=>Ac 5 fun z a8=>?_;simp only[go_sem,b,zSi];refine I (Aj (Aq (C (Aa fun _ J=>Aa fun _ K=>?_))));have:k=L.length:=by omega
          subst this;refine Ac 1 fun _ _=>?_;simp only[go_sem];refine K (Ai ?_);refine Ay (fun m h=>∃ k,k≤M.length∧m=M.length - k ∧
              Le { env:=[(2,.ptr ⟨e,2,0⟩ 0),(5,.ptr ⟨c,5,0⟩ 0),(7,dN k)],
                   σ:=[(⟨e,2,0⟩,.box 46 zSi),
                     (⟨c,5,0⟩,.box 46 [.val (.string s.name),.own ⟨c,26,1⟩ L.length,.own ⟨c,26,2⟩ M.length,.val (.string (ownF s s.result).name),.sl false ((ownF s s.result).args.map AC),.val (.int .i64 (ownF s s.result).pos),.val (.int .i64 s.pos)]),
                     (⟨c,26,1⟩,.arr 92 5 (L.mapIdx (upTo L.length))),(⟨c,26,2⟩,.arr 84 5 (M.mapIdx (upP k)))] } h) M.length ?_ ?_
          · refine ⟨0,dX _,rfl,Ao ?_⟩;simp only[go_sem,Zb,zSi];trivial
          · rintro m h ⟨k,v,rfl,f⟩;refine Az f ?_;clear f;by_cases b:k < M.length
            · refine Aa fun _ O=>Aa fun _ P=>Ac 5 fun x a5=>?_;simp only[go_sem,zSi,b];refine P (Al (Ae (O (Aa fun _ Q=>Ai (Ac 6 fun _ _=>?_)))));simp only[go_sem,aaA _ _ b,b];refine Q (Ac 3 fun _ _=>?_);simp only[go_sem,zSi];try simp (disch:=omega) only[Au]
              refine ⟨_,?_,k + 1,b,rfl,Ao ?_⟩
              · omega
              simp only[go_sem,← aaB _ _ b,L8];omega
            · refine Aa fun _ _=>Aa fun _ S=>Ac 5 fun x a5=>?_;simp only[go_sem,b,zSi];refine S (Aj (Aq (J (Aa fun _ T=>?_))));have:k=M.length:=by omega
              subst this;refine Ac 2 fun _ _=>?_;simp only[go_sem];refine T (Ah ?_);subst hr hw;refine DK [⟨c,26,1⟩,⟨c,26,2⟩] rfl ?_;simp only[go_sem,Hq,BH,HY,o,p,Zc,aaz];exact Co.refl _
theorem S5 {f:FuncId} {args:List D} {g d:Nat} {s:Sig} (h:ACalls E f args [] g d (HY g d s) (Hq g d s)):ACalls E f args [] g d (AH s) []:=by
 refine h.sees ?_;refine Sees.trans (IE ⟨g,d,1⟩ (K:=fun b=>b=⟨[(0,.agg [.val (.string s.name),slFm s.formals,.own ⟨g,d,2⟩ s.params.length,.val (.string s.result.name),.sl false (s.result.args.map AC),.val (.int .i64 s.result.pos),.val (.int .i64 s.pos)])],[(⟨g,d,2⟩,.arr 84 5 (s.params.map Bt))]⟩) ?_) ?_
 ·simp only[go_sem,Hq,HY]
 ·rintro _ rfl;refine IE ⟨g,d,2⟩ ?_;simp only[go_sem];exact ⟨rfl,fun _ a=>nomatch a⟩
theorem Fk (s:Sig) (hs:smSi s) (g d:Nat):ACalls E 131 [AH s] [] g d (AH (BH s)) []:=S5 (Qn s hs g d)
theorem HD (ns:List Str) (us:List Ty) (hns:ns.length≤1000000) (hus:∀ x∈us,smTy x) (s:Sig) (hs:smSi s) (g d:Nat):ACalls E 130 [AH s,slS ns,slTy us] [] g d (AH (CT (AD ns us) s)) []:=S5 (HQ ns us hns hus s hs g d)
def same (t u:Ty):Bool:=decide (BK t u=0)
def allB {α:Type} (p:α→α→Bool):List α→List α→Bool
 | [],[]=>true
 | a :: x,b :: y=>p a b && allB p x y
 | _,_=>false
theorem JG {α:Type} {p:α→α→Bool}:∀ {x y:List α},x.length≠y.length→allB p x y=false
 | [],[],h=>absurd rfl h
 | [],_ :: _,_=>rfl
 | _ :: _,[],_=>rfl
 | a :: x,b :: y,h=>by simp only[allB,JG (x:=x) (y:=y) (fun e=>h (by simp[e])),fN]
def S6 (a b:Formal):Bool:=decide (a.name=b.name) && same a.bound b.bound
def S7 (a b:Param):Bool:=decide (a.name=b.name) && same a.type b.type
def S8 (s t:Sig):Bool:=decide (s.name=t.name) && (allB S6 s.formals t.formals && (allB S7 s.params t.params && same s.result t.result))
def DT (q:Bool) (a b:Formal):Bool:=(decide (a.name=b.name) && same a.bound b.bound) && (!q || (decide (a.pos=b.pos) && eqTy a.bound b.bound))
def DU (q:Bool) (a b:Param):Bool:=(decide (a.name=b.name) && same a.type b.type) && (!q || (decide (a.pos=b.pos) && eqTy a.type b.type))
def DV (q:Bool) (s t:Sig):Bool:=(decide (s.name=t.name) && (allB (DT q) s.formals t.formals && (allB (DU q) s.params t.params && same s.result t.result))) && (!q || (decide (s.pos=t.pos) && eqTy s.result t.result))
theorem Oj (q:Bool) (l r:List Formal) (hl:l.length≤9223372036854775807) (hl2:∀ a∈l,okFm a) (g d:Nat):ACalls E 113 [slFm l,slFm r,dB q] [] g d (dB (allB (DT q) l r)) []:=by
 refine Ax 72 Tryz.call113 Tryz.func113 ?_;simp only[go_sem];refine Aa fun _ O=>Ac 1 fun _ _=>?_;simp only[go_sem];refine O (Aa fun _ W=>Aa fun _ z=>?_);by_cases a8:l.length=r.length
 ·have w : (l.length:Int)=r.length:=by omega
  refine Ac 5 fun j a2=>?_;simp only[go_sem,w];refine z (Aj (Ae (W (Aa fun _ X=>Aa fun _ Y=>Ac 1 fun _ _=>?_))));simp only[go_sem];refine Y (Ai ?_);refine Ay (fun m H=>∃ k,k≤l.length∧m=l.length - k∧allB (DT q) (l.drop k) (r.drop k)=allB (DT q) l r ∧
    Le { env:=[(0,slFm l),(1,slFm r),(2,dB q),(7,dN k)],σ:=[] } H) l.length ?_ ?_
  ·refine ⟨0,dX _,rfl,rfl,Ao ?_⟩;simp only[go_sem];trivial
  ·rintro m H ⟨k,hk,rfl,b,D⟩;refine Az D ?_;clear D;by_cases c:k < l.length
   ·have F:k < r.length:=by omega
    rw[MT _ _ c,MT _ _ F] at b;simp only[allB] at b;have j:=getM (f:=Bz) c;have p:=getM (f:=Bz) F;refine Aa fun _ Z=>Aa fun _ a0=>Ac 4 fun J a3=>?_;simp only[go_sem,c];refine a0 (Al (Ae (Z (Aa fun _ A=>Ai (Aa fun _ a1=>Aa fun _ v=>?_)))));by_cases h:l[k].name=r[k].name
    ·refine AE fun L a5 a9 I o u=>Av 22 o ?_;simp only[go_sem,h,j,p];refine Aw o (CM _ _ (hl2 _ (dP c)).2 _ _) ?_;cases i:same l[k].bound r[k].bound with
     | false =>
      refine Ap 2 o ?_;simp only[go_sem,show decide (BK l[k].bound r[k].bound=0)=false from i];refine u (v (Al (Aa fun _ P=>Ac 1 fun M a6=>?_)));simp only[go_sem];refine P (Ah ?_);rw[show DT q l[k] r[k]=false by simp[DT,i]] at b;rw[fc] at b;rw[← b];refine Ag ?_;simp only[go_sem];exact Co.refl _
     | true =>
      refine Ap 2 o ?_;simp only[go_sem,show decide (BK l[k].bound r[k].bound=0)=true from i];refine u (v (Aj (Ae (a1 (Aa fun _ t=>?_)))));cases q with
      | false =>
       refine AE fun y C G x e n=>Ap 28 e ?_;simp only[go_sem];refine n (t (Aj (Ae (A (Ac 3 fun K a4=>?_)))));simp only[go_sem];try simp (disch:=omega) only[Au]
       rw[show DT false l[k] r[k]=true by simp[DT,i,h]] at b;rw[gk] at b;refine ⟨_,?_,k + 1,c,rfl,b,Ao ?_⟩
       ·omega
       simp only[go_sem];omega
      | true =>
       by_cases s:l[k].pos=r[k].pos
       ·refine AE fun y C G x e n=>Av 24 e ?_;simp only[go_sem,s,j,p];refine Aw e (Ga _ (hl2 _ (dP c)).2 _ _ _) ?_;cases B:eqTy l[k].bound r[k].bound with
        | true =>
         refine Ap 3 e ?_;simp only[go_sem];refine n (t (Aj (Ae (A (Ac 3 fun K a4=>?_)))));simp only[go_sem];try simp (disch:=omega) only[Au]
         rw[show DT true l[k] r[k]=true by simp[DT,i,h,s,B]] at b;rw[gk] at b;refine ⟨_,?_,k + 1,c,rfl,b,Ao ?_⟩
         ·omega
         simp only[go_sem];omega
        | false =>
         refine Ap 3 e ?_;simp only[go_sem];refine n (t (Al (Aa fun _ Q=>Ac 1 fun N a7=>?_)));simp only[go_sem];refine Q (Ah ?_);rw[show DT true l[k] r[k]=false by simp[DT,i,h,s,B]] at b;rw[fc] at b;rw[← b];refine Ag ?_;simp only[go_sem];exact Co.refl _
       ·refine AE fun y C G x e n=>Ap 28 e ?_;simp only[go_sem,s,j,p];refine n (t (Al (Aa fun _ R=>Ac 1 fun N a7=>?_)));simp only[go_sem];refine R (Ah ?_);rw[show DT true l[k] r[k]=false by simp[DT,i,h,s]] at b;rw[fc] at b;rw[← b];refine Ag ?_;simp only[go_sem];exact Co.refl _
    ·refine AE fun L a5 a9 I o u=>Ap 25 o ?_;simp only[go_sem,h,j,p];refine u (v (Al (Aa fun _ S=>Ac 1 fun M a6=>?_)));simp only[go_sem];refine S (Ah ?_);rw[show DT q l[k] r[k]=false by simp[DT,h]] at b;rw[fc] at b;rw[← b];refine Ag ?_;simp only[go_sem];exact Co.refl _
   ·rw[DF _ _ (by omega),DF _ _ (by omega)] at b;simp only[allB] at b;refine Aa fun _ _=>Aa fun _ T=>Ac 4 fun J a3=>?_;simp only[go_sem,c];refine T (Aj (Aq (X (Aa fun _ U=>Ac 1 fun _ _=>?_))));simp only[go_sem];refine U (Ah ?_);rw[← b];refine Ag ?_;simp only[go_sem];exact Co.refl _
 ·have w : ¬ (l.length:Int)=r.length:=by omega
  refine Ac 5 fun j a2=>?_;simp only[go_sem,w];refine z (Al (Aa fun _ V=>Ac 1 fun p _=>?_));simp only[go_sem];refine V (Ah ?_);rw[JG a8];refine Ag ?_;simp only[go_sem];exact Co.refl _
theorem Po (q:Bool) (l r:List Param) (hl:l.length≤9223372036854775807) (hl2:∀ a∈l,okPa a) (g d:Nat):ACalls E 114 [slPa l,slPa r,dB q] [] g d (dB (allB (DU q) l r)) []:=by
 refine Ax 72 Tryz.call114 Tryz.func114 ?_;simp only[go_sem];refine Aa fun _ O=>Ac 1 fun _ _=>?_;simp only[go_sem];refine O (Aa fun _ W=>Aa fun _ z=>?_);by_cases a8:l.length=r.length
 ·have w : (l.length:Int)=r.length:=by omega
  refine Ac 5 fun j a2=>?_;simp only[go_sem,w];refine z (Aj (Ae (W (Aa fun _ X=>Aa fun _ Y=>Ac 1 fun _ _=>?_))));simp only[go_sem];refine Y (Ai ?_);refine Ay (fun m H=>∃ k,k≤l.length∧m=l.length - k∧allB (DU q) (l.drop k) (r.drop k)=allB (DU q) l r ∧
    Le { env:=[(0,slPa l),(1,slPa r),(2,dB q),(7,dN k)],σ:=[] } H) l.length ?_ ?_
  ·refine ⟨0,dX _,rfl,rfl,Ao ?_⟩;simp only[go_sem];trivial
  ·rintro m H ⟨k,hk,rfl,b,D⟩;refine Az D ?_;clear D;by_cases c:k < l.length
   ·have F:k < r.length:=by omega
    rw[MT _ _ c,MT _ _ F] at b;simp only[allB] at b;have j:=getM (f:=Bt) c;have p:=getM (f:=Bt) F;refine Aa fun _ Z=>Aa fun _ a0=>Ac 4 fun J a3=>?_;simp only[go_sem,c];refine a0 (Al (Ae (Z (Aa fun _ A=>Ai (Aa fun _ a1=>Aa fun _ v=>?_)))));by_cases h:l[k].name=r[k].name
    ·refine AE fun L a5 a9 I o u=>Av 22 o ?_;simp only[go_sem,h,j,p];refine Aw o (CM _ _ (hl2 _ (dP c)).2 _ _) ?_;cases i:same l[k].type r[k].type with
     | false =>
      refine Ap 2 o ?_;simp only[go_sem,show decide (BK l[k].type r[k].type=0)=false from i];refine u (v (Al (Aa fun _ P=>Ac 1 fun M a6=>?_)));simp only[go_sem];refine P (Ah ?_);rw[show DU q l[k] r[k]=false by simp[DU,i]] at b;rw[fc] at b;rw[← b];refine Ag ?_;simp only[go_sem];exact Co.refl _
     | true =>
      refine Ap 2 o ?_;simp only[go_sem,show decide (BK l[k].type r[k].type=0)=true from i];refine u (v (Aj (Ae (a1 (Aa fun _ t=>?_)))));cases q with
      | false =>
       refine AE fun y C G x e n=>Ap 28 e ?_;simp only[go_sem];refine n (t (Aj (Ae (A (Ac 3 fun K a4=>?_)))));simp only[go_sem];try simp (disch:=omega) only[Au]
       rw[show DU false l[k] r[k]=true by simp[DU,i,h]] at b;rw[gk] at b;refine ⟨_,?_,k + 1,c,rfl,b,Ao ?_⟩
       ·omega
       simp only[go_sem];omega
      | true =>
       by_cases s:l[k].pos=r[k].pos
       ·refine AE fun y C G x e n=>Av 24 e ?_;simp only[go_sem,s,j,p];refine Aw e (Ga _ (hl2 _ (dP c)).2 _ _ _) ?_;cases B:eqTy l[k].type r[k].type with
        | true =>
         refine Ap 3 e ?_;simp only[go_sem];refine n (t (Aj (Ae (A (Ac 3 fun K a4=>?_)))));simp only[go_sem];try simp (disch:=omega) only[Au]
         rw[show DU true l[k] r[k]=true by simp[DU,i,h,s,B]] at b;rw[gk] at b;refine ⟨_,?_,k + 1,c,rfl,b,Ao ?_⟩
         ·omega
         simp only[go_sem];omega
        | false =>
         refine Ap 3 e ?_;simp only[go_sem];refine n (t (Al (Aa fun _ Q=>Ac 1 fun N a7=>?_)));simp only[go_sem];refine Q (Ah ?_);rw[show DU true l[k] r[k]=false by simp[DU,i,h,s,B]] at b;rw[fc] at b;rw[← b];refine Ag ?_;simp only[go_sem];exact Co.refl _
       ·refine AE fun y C G x e n=>Ap 28 e ?_;simp only[go_sem,s,j,p];refine n (t (Al (Aa fun _ R=>Ac 1 fun N a7=>?_)));simp only[go_sem];refine R (Ah ?_);rw[show DU true l[k] r[k]=false by simp[DU,i,h,s]] at b;rw[fc] at b;rw[← b];refine Ag ?_;simp only[go_sem];exact Co.refl _
    ·refine AE fun L a5 a9 I o u=>Ap 25 o ?_;simp only[go_sem,h,j,p];refine u (v (Al (Aa fun _ S=>Ac 1 fun M a6=>?_)));simp only[go_sem];refine S (Ah ?_);rw[show DU q l[k] r[k]=false by simp[DU,h]] at b;rw[fc] at b;rw[← b];refine Ag ?_;simp only[go_sem];exact Co.refl _
   ·rw[DF _ _ (by omega),DF _ _ (by omega)] at b;simp only[allB] at b;refine Aa fun _ _=>Aa fun _ T=>Ac 4 fun J a3=>?_;simp only[go_sem,c];refine T (Aj (Aq (X (Aa fun _ U=>Ac 1 fun _ _=>?_))));simp only[go_sem];refine U (Ah ?_);rw[← b];refine Ag ?_;simp only[go_sem];exact Co.refl _
 ·have w : ¬ (l.length:Int)=r.length:=by omega
  refine Ac 5 fun j a2=>?_;simp only[go_sem,w];refine z (Al (Aa fun _ V=>Ac 1 fun p _=>?_));simp only[go_sem];refine V (Ah ?_);rw[JG a8];refine Ag ?_;simp only[go_sem];exact Co.refl _
end Go.Proofs.T
