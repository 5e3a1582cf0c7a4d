/- A part of the proof: ZAL. -/
import Derived.Test.YtnkpcgpmgkaakaaGreatZAK
import Derived.Lib.Small
import Derived.Lib.Walk
namespace Go.Ab
open Go.Sort (SWO)
variable {β:Type}
def Ord (lt:β→β→Bool) (l:List β):Prop:=l.Pairwise fun a b=>lt b a=false
noncomputable def srt (lt:β→β→Bool) (l:List β):List β:=l.mergeSort fun a b=>!lt b a
theorem SWO.total {lt:β→β→Bool} (h:SWO lt) (a b:β):(!lt b a || !lt a b)=true:=by
 cases c:lt b a with
 | false=>simp
 | true =>
  cases d:lt a b with
  | false=>simp
  | true=>have:=h.trans _ _ _ c d; rw[h.irrefl] at this; cases this
theorem G9 (lt:β→β→Bool) (l:List β):(srt lt l).Perm l:=List.mergeSort_perm _ _
theorem Vr {lt:β→β→Bool} (h:SWO lt) (l:List β):Ord lt (srt lt l):=by
 have:=List.pairwise_mergeSort (le:=fun a b=>!lt b a) (fun a b _ c d=>by
  simp only[ib] at c d ⊢;exact h.ntrans _ _ _ d c) (fun a b=>SWO.total h a b) l
 exact this.imp fun h=>by simpa using h
theorem KT {lt:β→β→Bool} (h:SWO lt) {l l2:List β} (hd:∀ a∈l,∀ b∈l,lt a b=false→lt b a=false→a=b) (hp:l2.Perm l) (ho:Ord lt l2):l2=srt lt l :=
 List.Perm.eq_of_pairwise (le:=fun a b=>lt b a=false) (fun a b ha hb h1 h2=>hd a (hp.subset ha) b ((G9 lt l).subset hb) h2 h1) ho (Vr h l) (hp.trans (G9 lt l).symm)
theorem JV (lt:β→β→Bool) (l:List β):(srt lt l).length=l.length:=(G9 lt l).length_eq
theorem aaE (lt:β→β→Bool):srt lt ([]:List β)=[]:=h8.1 (JV lt [])
def Mid (lt:β→β→Bool) (l:List β) (k n:Nat):Prop:=∀ (i j:Nat) a b,i < j→j≤k→j≠n→l[i]?=some a→l[j]?=some b→lt b a=false
def Upto (lt:β→β→Bool) (l:List β) (k:Nat):Prop:=∀ (i j:Nat) a b,i < j→j < k→l[i]?=some a→l[j]?=some b→lt b a=false
theorem Mg (lt:β→β→Bool) (l:List β):Upto lt l 0:=fun _ _ _ _ _ _=>by omega
theorem Om {lt:β→β→Bool} {l:List β} {k:Nat} (h:Upto lt l k):Mid lt l k k:=fun i j a b h1 _ _=>h i j a b h1 (by omega)
theorem On {lt:β→β→Bool} {l:List β} {k:Nat} (h:Mid lt l k 0):Upto lt l (k + 1):=fun i j a b h1 _ h3 h4=>h i j a b h1 (by omega) (by omega) h3 h4
theorem Oo {lt:β→β→Bool} (hO:SWO lt) {l:List β} {k n:Nat} {x y:β} (h:Mid lt l k (n + 1)) (hk:n + 1≤k) (hx:l[n]?=some x) (hy:l[n + 1]?=some y) (hlt:lt y x=false):Upto lt l (k + 1):=by
 intro i j a b f m c d;by_cases e:j=n + 1
 ·subst e;rw[hy] at d;cases d;by_cases g:i=n
  ·subst g;rw[hx] at c;cases c;exact hlt
  ·exact hO.ntrans _ _ _ hlt (h i n a x (by omega) (by omega) (by omega) c hx)
 ·exact h i j a b f (by omega) e c d
theorem Oq {lt:β→β→Bool} (hO:SWO lt) {l:List β} {k n:Nat} {x y:β} (h:Mid lt l k (n + 1)) (hk:n + 1≤k) (hx:l[n]?=some x) (hy:l[n + 1]?=some y) (hlt:lt y x=true):Mid lt ((l.set (n + 1) x).set n y) k n:=by
 have t:n + 1 < l.length:=(dW.1 hy).1;have r:∀ m:Nat,((l.set (n + 1) x).set n y)[m]?=if m=n then some y else if m=n + 1 then some x else l[m]?:=by
  intro m;rw[gl,gl];by_cases d:n=m
  ·subst d; simp; omega
  ·rw[if_neg d,if_neg (Ne.symm d)];by_cases e:n + 1=m
   ·subst e; simp; omega
   ·rw[if_neg e,if_neg (Ne.symm e)]
 have s:lt x y=false:=by
  cases d:lt x y with
  | false=>rfl
  | true=>have:=hO.trans _ _ _ d hlt; rw[hO.irrefl] at this; cases this
 intro i j a b d e q c f;rw[r] at c f;by_cases o:j=n + 1
 ·subst o;rw[if_neg (by omega),if_pos rfl] at f;cases f;by_cases g:i=n
  ·subst g; rw[if_pos rfl] at c; cases c; exact s
  ·rw[if_neg g,if_neg (by omega)] at c;exact h i n a x (by omega) (by omega) (by omega) c hx
 ·rw[if_neg q,if_neg o] at f;by_cases g:i=n
  ·subst g; rw[if_pos rfl] at c; cases c;exact h (i + 1) j y b (by omega) e o hy f
  ·rw[if_neg g] at c;by_cases p:i=n + 1
   ·subst p; rw[if_pos rfl] at c; cases c;exact h n j x b (by omega) e o hx f
   ·rw[if_neg p] at c;exact h i j a b d e o c f
theorem Ot {lt:β→β→Bool} {l:List β} (h:Upto lt l l.length):Ord lt l:=by
 unfold Ord;rw[gT];intro i j b a c;exact h i j _ _ c a (dO b) (dO a)
theorem Mh {l:List β} {n:Nat} {x y:β} (hx:l[n]?=some x) (hy:l[n + 1]?=some y):((l.set (n + 1) x).set n y).Perm l:=by
 obtain ⟨a,rfl⟩:=dW.1 hx;obtain ⟨b,rfl⟩:=dW.1 hy;exact List.set_set_perm b a
end Go.Ab
namespace Go.Proofs.T
open Go Go.Ab Go.RowKit
instance:Inhabited Sig:=⟨Bw⟩
theorem Pw:∀ x y:List UInt8,cmpL x y=- cmpL y x
 | [],[]=>by simp[cmpL]
 | [],_ :: _=>by simp[cmpL]
 | _ :: _,[]=>by simp[cmpL]
 | a :: x,b :: y=>by
  simp only[cmpL];by_cases h1:a < b
  ·have:¬ b < a:=fun h=>absurd (UInt8.lt_trans h1 h) (UInt8.lt_irrefl _);simp[h1,this]
  ·by_cases h2:b < a
   ·simp[h1,h2]
   ·simp[h1,h2,Pw x y]
theorem NF:∀ x y z:List UInt8,cmpL x y < 0→cmpL y z < 0→cmpL x z < 0
 | [],[],_,h,_=>by simp[cmpL] at h
 | [],_ :: _,[],_,h=>by simp[cmpL] at h
 | [],_ :: _,_ :: _,_,_=>by simp[cmpL]
 | _ :: _,[],_,h,_=>by simp[cmpL] at h
 | _ :: _,_ :: _,[],_,h=>by simp[cmpL] at h
 | a :: x,b :: y,c :: z,h1,h2=>by
  simp only[cmpL] at h1 h2 ⊢;by_cases hab:a < b
  ·by_cases hbc:b < c
   ·have:=UInt8.lt_trans hab hbc;simp[this]
   ·by_cases hcb:c < b
    ·simp[hbc,hcb] at h2
    ·have hbc' : b=c:=UInt8.le_antisymm (UInt8.not_lt.1 hcb) (UInt8.not_lt.1 hbc);subst hbc';simp[hab]
  ·by_cases hba:b < a
   ·simp[hab,hba] at h1
   ·have hab' : a=b:=UInt8.le_antisymm (UInt8.not_lt.1 hba) (UInt8.not_lt.1 hab);subst hab';by_cases hbc:a < c
    ·simp[hbc]
    ·by_cases hcb:c < a
     ·simp[hbc,hcb] at h2
     ·simp only[hbc,hcb,UInt8.lt_irrefl,if_false] at h1 h2 ⊢;exact NF x y z h1 h2
theorem Px (a b:Str):cmpS a b=- cmpS b a:=Pw _ _
theorem NG {a b c:Str} (h1:cmpS a b < 0) (h2:cmpS b c < 0):cmpS a c < 0:=NF _ _ _ h1 h2
def ltS (a b:Str):Bool:=decide (cmpS a b < 0)
theorem swoS:Sort.SWO ltS where
 irrefl x:=by
  have:cmpS x x=0:=CE.2 rfl;simp[ltS,this]
 trans x y z h1 h2:=by
  simp only[ltS,decide_eq_true_eq] at *;exact NG h1 h2
 ntrans x y z h1 h2:=by
  simp only[ltS,decide_eq_false_iff_not] at *;intro h;by_cases a:x=y
  ·subst a; exact h2 h
  ·have b:cmpS y x < 0:=by
    have:=Px x y;have c:cmpS x y≠0:=fun e=>a (CE.1 e);omega
   exact h2 (NG b h)
theorem Zq {a b:Str} (h1:ltS a b=false) (h2:ltS b a=false):a=b:=by
 simp only[ltS,decide_eq_false_iff_not] at h1 h2;have:=Px a b;exact CE.1 (by omega)
def cfSi (a b:Sig):Int:=cmpS a.name b.name
def ltSi (a b:Sig):Bool:=ltS a.name b.name
theorem Ib:Sort.SWO ltSi:=⟨fun _=>swoS.irrefl _,fun _ _ _=>swoS.trans _ _ _,fun _ _ _=>swoS.ntrans _ _ _⟩
def Names1 (l:List Sig):Prop:=(l.map (·.name)).Nodup
theorem Names1.inj {l:List Sig} (h:Names1 l):∀ a∈l,∀ b∈l,ltSi a b=false→ltSi b a=false→a=b:=by
 intro a f b g c d;have n:=Zq c d;obtain ⟨i,k,rfl⟩:=eT.1 f;obtain ⟨j,m,rfl⟩:=eT.1 g;have e:=(List.getElem_inj (h₀:=by simpa using k) (h₁:=by simpa using m) h).1 (by simpa using n);subst e
 rfl
theorem Py (d:Dec) (us:List Ty) (n:Str):∀ k,n∈(Bu d us k).map (·.name)→seen d.sigs k n=true
 | 0,h=>by simp[Bu] at h
 | k + 1,h=>by
  have ih:=Py d us n k;by_cases hk:k < d.sigs.length
  ·rw[Rh d.sigs k n hk];rw[Fv d us k hk] at h;split at h
   ·simp[ih h]
   ·rw[eC,eu] at h;rcases h with h | h
    ·simp[ih h]
    ·have:n=d.sigs[k].name:=by simpa [FW,CT,BH] using h
     simp[this]
  ·have e:Bu d us (k + 1)=Bu d us k:=by simp only[Bu,fh (show d.sigs.length≤k by omega)]
   rw[e] at h;have:=ih h;simpa [seen,fO (show d.sigs.length≤k by omega),fO (show d.sigs.length≤k + 1 by omega)] using this
theorem NH (d:Dec) (us:List Ty):∀ k,Names1 (Bu d us k)
 | 0=>by simp[Names1,Bu]
 | k + 1=>by
  have ih:=NH d us k;by_cases hk:k < d.sigs.length
  ·rw[Fv d us k hk];split
   ·exact ih
   ·rename_i hs;unfold Names1;rw[eC,gc];refine ⟨ih,by simp,fun _ ha b hb he=>?_⟩;have hb' : b=d.sigs[k].name:=by simpa [FW,CT,BH] using hb
    subst he hb';exact hs (Py d us _ k ha)
  ·have e:Bu d us (k + 1)=Bu d us k:=by simp only[Bu,fh (show d.sigs.length≤k by omega)]
   rw[e];exact ih
theorem Pz (p:Prg) (x:Ty) (n:Str):∀ k,n∈(Cz p x k).map (·.name)→∃ j,j < k∧DP p x.name n=some j
 | 0,h=>by simp[Cz] at h
 | k + 1,h=>by
  have ih:=Pz p x n k;by_cases hk:k < p.decls.length
  ·rw[GD p x k hk] at h;split at h
   ·rename_i hp;rw[eC,eu] at h;rcases h with h | h
    ·obtain ⟨j,hj,h⟩:=ih h; exact ⟨j,by omega,h⟩
    ·have hn:n=p.decls[k].sig.name:=by simpa [mSig,CT,BH] using h
     subst hn;simp only[Hr,ej,decide_eq_true_eq] at hp;exact ⟨k,by omega,hp.1⟩
   ·obtain ⟨j,hj,h⟩:=ih h; exact ⟨j,by omega,h⟩
  ·have e:Cz p x (k + 1)=Cz p x k:=by simp only[Cz,fh (show p.decls.length≤k by omega)]
   rw[e] at h;obtain ⟨j,hj,h⟩:=ih h; exact ⟨j,by omega,h⟩
theorem Rl (p:Prg) (x:Ty):∀ k,Names1 (Cz p x k)
 | 0=>by simp[Names1,Cz]
 | k + 1=>by
  have ih:=Rl p x k;by_cases hk:k < p.decls.length
  ·rw[GD p x k hk];split
   ·rename_i hp;unfold Names1;rw[eC,gc];refine ⟨ih,by simp,fun _ ha b hb he=>?_⟩;have hb' : b=p.decls[k].sig.name:=by simpa [mSig,CT,BH] using hb
    subst he hb';obtain ⟨j,c,a⟩:=Pz p x _ k ha;simp only[Hr,ej,decide_eq_true_eq] at hp;rw[a] at hp;have:=Option.some.inj hp.1;omega
   ·exact ih
  ·have e:Cz p x (k + 1)=Cz p x k:=by simp only[Cz,fh (show p.decls.length≤k by omega)]
   rw[e];exact ih
theorem PA (p:Prg) (x:Ty):Names1 (spOf p x):=by
 unfold spOf;split
 ·exact NH _ _ _
 ·simp[Names1]
theorem Tk (p:Prg) (x:Ty):Names1 (Cc p x):=by
 unfold Cc;split
 ·exact Rl _ _ _
 ·simp[Names1]
def Er (p:Prg) (env:List Formal) (x:Ty):List Sig:=if BN p ((D4 env x).getD x) 2=true∨(D4 env x).isSome=true then spOf p ((D4 env x).getD x) else Cc p x
noncomputable def Bq (p:Prg) (env:List Formal) (x:Ty):List Sig:=srt ltSi (Er p env x)
theorem JW {p:Prg} (h:smPr p) {x:Ty} (hx:smTy x):(spOf p x).length≤1000000∧∀ s∈spOf p x,smSi s:=by
 have a:=((Bi x).1 hx).2.2;unfold spOf;split
 ·exact aaD (E2 h x.name) a
 ·simp
theorem PB {l:List Formal} {x t:Ty} (hl:∀ f∈l,smFm f) (h:D4 l x=some t):smTy t:=by
 unfold D4 at h;split at h
 ·obtain ⟨i,_,b⟩:=fj.1 h;obtain ⟨f,a,rfl⟩:=ee.1 b;exact (hl f (ew a)).2
 ·cases h
theorem UL {l:List Formal} {x:Ty} (hl:∀ f∈l,smFm f) (hx:smTy x):smTy ((D4 l x).getD x):=by
 cases h:D4 l x with
 | none=>exact hx
 | some t=>exact PB hl h
theorem XM {p:Prg} (h:smPr p) {env:List Formal} (he:∀ f∈env,smFm f) {x:Ty} (hx:smTy x):(Er p env x).length≤1000000∧∀ s∈Er p env x,smSi s:=by
 unfold Er;split
 ·exact JW h (UL he hx)
 ·have:=XK h ((Bi x).1 hx).2.2;exact ⟨by omega,this.2⟩
theorem Ha {p:Prg} (h:smPr p) {env:List Formal} (he:∀ f∈env,smFm f) {x:Ty} (hx:smTy x):(Bq p env x).length≤1000000∧∀ s∈Bq p env x,smSi s:=by
 have a:=XM h he hx;exact ⟨by unfold Bq; rw[JV]; exact a.1,fun s b=>a.2 s ((G9 _ _).subset b)⟩
def ac3 (vs:List Value) (s:Sig):Prop:=vs[0]?=some (.string s.name)
def CL (l:List Sig) (m:Str):Option Nat:=l.findIdx? fun s=>decide (s.name=m)
def Wr (l:List Sig) (m:Str):Sig:=((CL l m).bind fun i=>l[i]?).getD Bw
def covered (a:List Sig) (s:Sig):Bool:=(CL a s.name).isSome && alike (Wr a s.name) s
def GE (a b:List Sig):List Str:=(b.filter fun s=>!covered a s).map (·.name)
theorem Ws (a b:List Sig) (k:Nat) (h:k < b.length):GE a (b.take (k + 1))=if covered a b[k]=true then GE a (b.take k) else GE a (b.take k)++[b[k].name]:=by
 unfold GE;rw[ep,dO h,List.filter_append,eC];cases c:covered a b[k] <;> simp[c]
theorem XN (a b:List Sig):(GE a b).length≤b.length:=by
 unfold GE;rw[ei];exact ie _ _
set_option maxHeartbeats 1000000 in
theorem GF (p:Prg) (h:smPr p) (env:List Formal) (he:env.length≤1000000) (he2:∀ f∈env,smFm f) (x:Ty) (hx:smTy x) (g d:Nat):ACalls E 47 [AZ p,slFm env,AC x] [] g d (slSi (Bq p env x)) []:=by
 have a9:=FE env x (by omega) (smTy.ok _ hx);have e0:(if x.args.length=0 then optI (env.findIdx? fun f=>isS x.name f.name) else -1)=optI (if x.args.length=0 then env.findIdx? fun f=>isS x.name f.name else none):=by split <;> rfl
 rw[e0] at a9;have ag:D4 env x=(if x.args.length=0 then env.findIdx? fun f=>isS x.name f.name else none).bind fun i=>env[i]?.map (·.bound):=by
  unfold D4;split <;> rfl
 have aE:∀ i,(if x.args.length=0 then env.findIdx? fun f=>isS x.name f.name else none)=some i→i < env.length:=by
  intro i r;split at r
  ·exact (eU.1 r).1
  ·cases r
 generalize (if x.args.length=0 then env.findIdx? fun f=>isS x.name f.name else none)=fi at a9 ag aE;refine Ax 77 Tryz.call47 Tryz.func47 ?_;simp only[go_sem];refine Aa fun _ aU=>Ac 3 fun _ _=>?_;simp only[go_sem];refine aU (Aa fun _ b2=>Ac 1 fun _ _=>?_);simp only[go_sem];refine b2 (Aa fun _ av=>Am fun _ _ _ _ a2 aD=>Af 2 a2 ?_);simp only[go_sem];cases fi with
 | none =>
  have R:D4 env x=none:=by rw[ag]; rfl
  have h1:¬ ((0:Int)≤-1):=by decide
  have h2:((-1:Int) < 0)=True:=by simp
  refine Ak a2 (a9 _ _) ?_;refine Ad 1 a2 ?_;simp only[go_sem];refine aD (av (Aa fun _ bi=>Aa fun _ bq=>Ac 2 fun g3 bJ=>?_));simp only[go_sem,h1,optI];refine bq (Aj (Ae (bi (Aa fun _ aB=>Aa fun _ aC=>Am fun g5 bK bO aO F X=>Af 2 F ?_))));simp only[go_sem];have L:smTy x:=hx;cases r:BN p x 2 with
  | true =>
   have M:Er p env x=spOf p x:=by simp[Er,R,r]
   obtain ⟨j,hj⟩:=NE (by decide) r;have a3:=Me p h x L j hj;rw[show Eh ((tyDe p (x).name).getD BM) (x).args=spOf p x by simp[spOf,r]] at a3;refine Ak F (CU p x 2 h.1.1 _ _) ?_;refine Ad 0 F ?_;simp only[go_sem,r];refine X (aC (Al (Am fun A bL bP aP O af=>Af 2 O ?_)));simp only[go_sem];refine Ak O (a3 _ _) ?_;refine Ad 1 O ?_;simp only[go_sem];refine af (aB (Aa fun _ bF=>Aa fun _ bG=>?_));have aM:(spOf p x).length≤1000000:=(JW h L).1;have a7:∀ s∈(spOf p x),smSi s:=(JW h L).2;refine Ac 1 fun g9 ai=>?_;simp only[go_sem];refine bG (Ai ?_)
   refine Ay (fun m s=>∃ k a,k≤(spOf p x).length∧m=(spOf p x).length - k∧a.Perm (spOf p x)∧Upto ltSi a k ∧
     Le { env:=[(9,dN k),(7,.own ⟨A,27,1⟩ (spOf p x).length)],σ:=[(⟨A,27,1⟩,.arr 46 7 (a.map AH))] } s) (spOf p x).length ?_ ?_
   ·refine ⟨0,(spOf p x),dX _,rfl,.refl _,Mg _ _,Ao ?_⟩;simp only[go_sem];try trivial
   ·rintro m s ⟨k,a,hk,rfl,b,y,o⟩;refine Az o ?_;clear o;have H:=b.length_eq;by_cases w:k < (spOf p x).length
    ·refine Aa fun _ aV=>Aa fun _ aW=>Ac 4 fun Q S=>?_;simp only[go_sem,w];refine aW (Al (Ae (aV (Aa fun _ aq=>Ai (Aa fun _ aX=>Ac 2 fun al aF=>?_)))));simp only[go_sem];refine aX (Ai ?_);refine Ay (fun n s=>∃ a,n≤k∧a.Perm (spOf p x)∧Mid ltSi a k n ∧
       Le { env:=[(9,dN k),(10,dN n),(7,.own ⟨A,27,1⟩ (spOf p x).length)],σ:=[(⟨A,27,1⟩,.arr 46 7 (a.map AH))] } s) k ?_ ?_
     ·refine ⟨a,ec _,b,Om y,Ao ?_⟩;simp only[go_sem]
     ·clear b y H;rintro n s ⟨a,I,b,C,o⟩;refine Az o ?_;clear o;have H:=b.length_eq;by_cases a1:n=0
      ·subst a1;have P:¬ ((0:Int) < 0):=by decide
       refine Aa fun _ _=>Aa fun _ aY=>AE fun V Z a8 T e u=>Ap 17 e ?_;simp only[go_sem,P,show ((0:Nat):Int)=0 from rfl];try simp (disch:=omega) only[Au,Ba,dZ,ed]
       refine u (aY (Aj (Aq (aq (Ac 3 fun U Y=>?_)))));simp only[go_sem];try simp (disch:=omega) only[Au]
       refine ⟨_,?_,k + 1,a,w,rfl,b,On C,Ao ?_⟩
       ·omega
       simp only[go_sem];omega
      ·obtain ⟨q,rfl⟩:∃ q,n=q + 1:=⟨n - 1,by omega⟩
       have c:q + 1 < a.length:=by omega
       have t:q < a.length:=by omega
       have a4:(0:Int) < ((q + 1:Nat):Int):=by omega
       have z:IntKind.i64.wrap (((q + 1:Nat):Int) - 1)=(q:Int):=by rw[Au _ (by omega) (by omega)]; omega
       have hx:=dO t;have G:=dO c;have K:a[q + 1].name.size≤9223372036854775807:=by have:=(a7 _ (b.subset (dP c))).1; omega
       refine Aa fun _ aZ=>Aa fun _ ar=>AE fun V Z a8 T e u=>Av 14 e ?_;simp only[go_sem,getM t,getM c,a4,t,c,z];try simp (disch:=omega) only[Au,Ba,dZ,ed]
       cases v:ltSi a[q + 1] a[q] with
       | false =>
        have B : ¬ (cmpS a[q + 1].name a[q].name < 0):=of_decide_eq_false v;refine Aw e (BZ a[q + 1].name a[q].name K _ _) ?_;refine Ap 2 e ?_;simp only[go_sem,B];refine u (ar (Aj (Aq (aq (Ac 3 fun U Y=>?_)))));simp only[go_sem];try simp (disch:=omega) only[Au]
        refine ⟨_,?_,k + 1,a,w,rfl,b,Oo Ib C I hx G v,Ao ?_⟩
        ·omega
        simp only[go_sem];omega
       | true =>
        have B : cmpS a[q + 1].name a[q].name < 0:=of_decide_eq_true v;refine Aw e (BZ a[q + 1].name a[q].name K _ _) ?_;refine Ap 2 e ?_;simp only[go_sem,B];refine u (ar (Al (Ae (aZ (Aa fun _ b0=>Ai (Aa fun _ b1=>?_))))));have J:q < (a.set (q + 1) a[q]).length:=by rw[gg]; omega
        have a5:(a.map AH).set (q + 1) (D.agg [.val (.string a[q].name),.sl false (a[q].formals.map Bz),.sl false (a[q].params.map Bt),.val (.string a[q].result.name),.sl false (a[q].result.args.map AC),.val (.int .i64 a[q].result.pos),.val (.int .i64 a[q].pos)])=(a.set (q + 1) a[q]).map AH:=by rw[gS]; rfl
        have a6:((a.set (q + 1) a[q]).map AH).set q (D.agg [.val (.string a[q + 1].name),.sl false (a[q + 1].formals.map Bz),.sl false (a[q + 1].params.map Bt),.val (.string a[q + 1].result.name),.sl false (a[q + 1].result.args.map AC),.val (.int .i64 a[q + 1].result.pos),.val (.int .i64 a[q + 1].pos)])=((a.set (q + 1) a[q]).set q a[q + 1]).map AH:=by rw[gS (l:=a.set (q + 1) a[q])]; rfl
        refine Ac 6 fun an aH=>?_;simp only[go_sem,getM c,c,AH];refine b1 (Aa fun _ b3=>Ac 9 fun ao aI=>?_);simp only[go_sem,getM t,getM c,a5,t,c,z,AH];try simp (disch:=omega) only[Au,Ba,dZ,ed]
        refine b3 (Ac 6 fun ap aJ=>?_);simp only[go_sem,J,getM J,a6,z,AH];try simp (disch:=omega) only[Au,Ba,dZ,ed]
        refine b0 (Ac 3 fun am aG=>?_);simp only[go_sem,z];try simp (disch:=omega) only[Au,Ba,dZ,ed]
        refine ⟨q,gj _,_,by omega,(Mh hx G).trans b,Oq Ib C I hx G v,Ao ?_⟩;simp only[go_sem]
    ·refine Aa fun _ _=>Aa fun _ b4=>Ac 4 fun Q S=>?_;simp only[go_sem,w];refine b4 (Aj (Aq (bF (Aa fun _ b5=>Ac 2 fun aa ah=>?_))));simp only[go_sem];refine b5 (Ah ?_);have a0:k=a.length:=by omega
     rw[a0] at y;refine AY ⟨A,27,1⟩ ?_;simp only[go_sem];have N:a=Bq p env x:=by rw[Bq,M]; exact KT Ib (Names1.inj (PA p x)) b (Ot y)
     refine Ag ?_;simp only[go_sem];exact Co.of_eq (congrArg (fun l=>D.sl false (l.map AH)) N)
  | false =>
   refine Ak F (CU p x 2 h.1.1 _ _) ?_;refine Ad 0 F ?_;simp only[go_sem,r];refine X (aC (Aj (Aa fun _ b6=>?_)));have M:Er p env x=Cc p x:=by simp[Er,R,r]
   have aN:=XK h ((Bi x).1 hx).2.2;refine Ac 2 fun g7 bM=>?_;simp only[go_sem,h2];refine b6 (Al (Am fun W _ _ _ ak bH=>Af 2 ak ?_));simp only[go_sem];refine Ak ak (Qp p h x hx _ _) ?_;refine Ad 1 ak ?_;simp only[go_sem];refine bH (aB (Aa fun _ b7=>Aa fun _ b8=>?_));have aM:(Cc p x).length≤1000000:=(by have:=aN.1; omega)
   have a7:∀ s∈(Cc p x),smSi s:=aN.2;refine Ac 1 fun g9 ai=>?_;simp only[go_sem];refine b8 (Ai ?_);refine Ay (fun m s=>∃ k a,k≤(Cc p x).length∧m=(Cc p x).length - k∧a.Perm (Cc p x)∧Upto ltSi a k ∧
     Le { env:=[(9,dN k),(7,.own ⟨W,32,1⟩ (Cc p x).length)],σ:=[(⟨W,32,1⟩,.arr 46 7 (a.map AH))] } s) (Cc p x).length ?_ ?_
   ·refine ⟨0,(Cc p x),dX _,rfl,.refl _,Mg _ _,Ao ?_⟩;simp only[go_sem];try trivial
   ·rintro m s ⟨k,a,hk,rfl,b,y,o⟩;refine Az o ?_;clear o;have H:=b.length_eq;by_cases w:k < (Cc p x).length
    ·refine Aa fun _ b9=>Aa fun _ ba=>Ac 4 fun Q S=>?_;simp only[go_sem,w];refine ba (Al (Ae (b9 (Aa fun _ au=>Ai (Aa fun _ bb=>Ac 2 fun al aF=>?_)))));simp only[go_sem];refine bb (Ai ?_);refine Ay (fun n s=>∃ a,n≤k∧a.Perm (Cc p x)∧Mid ltSi a k n ∧
       Le { env:=[(9,dN k),(10,dN n),(7,.own ⟨W,32,1⟩ (Cc p x).length)],σ:=[(⟨W,32,1⟩,.arr 46 7 (a.map AH))] } s) k ?_ ?_
     ·refine ⟨a,ec _,b,Om y,Ao ?_⟩;simp only[go_sem]
     ·clear b y H;rintro n s ⟨a,I,b,C,o⟩;refine Az o ?_;clear o;have H:=b.length_eq;by_cases a1:n=0
      ·subst a1;have P:¬ ((0:Int) < 0):=by decide
       refine Aa fun _ _=>Aa fun _ bc=>AE fun V Z a8 T e u=>Ap 17 e ?_;simp only[go_sem,P,show ((0:Nat):Int)=0 from rfl];try simp (disch:=omega) only[Au,Ba,dZ,ed]
       refine u (bc (Aj (Aq (au (Ac 3 fun U Y=>?_)))));simp only[go_sem];try simp (disch:=omega) only[Au]
       refine ⟨_,?_,k + 1,a,w,rfl,b,On C,Ao ?_⟩
       ·omega
       simp only[go_sem];omega
      ·obtain ⟨q,rfl⟩:∃ q,n=q + 1:=⟨n - 1,by omega⟩
       have c:q + 1 < a.length:=by omega
       have t:q < a.length:=by omega
       have a4:(0:Int) < ((q + 1:Nat):Int):=by omega
       have z:IntKind.i64.wrap (((q + 1:Nat):Int) - 1)=(q:Int):=by rw[Au _ (by omega) (by omega)]; omega
       have hx:=dO t;have G:=dO c;have K:a[q + 1].name.size≤9223372036854775807:=by have:=(a7 _ (b.subset (dP c))).1; omega
       refine Aa fun _ bd=>Aa fun _ aw=>AE fun V Z a8 T e u=>Av 14 e ?_;simp only[go_sem,getM t,getM c,a4,t,c,z];try simp (disch:=omega) only[Au,Ba,dZ,ed]
       cases v:ltSi a[q + 1] a[q] with
       | false =>
        have B : ¬ (cmpS a[q + 1].name a[q].name < 0):=of_decide_eq_false v;refine Aw e (BZ a[q + 1].name a[q].name K _ _) ?_;refine Ap 2 e ?_;simp only[go_sem,B];refine u (aw (Aj (Aq (au (Ac 3 fun U Y=>?_)))));simp only[go_sem];try simp (disch:=omega) only[Au]
        refine ⟨_,?_,k + 1,a,w,rfl,b,Oo Ib C I hx G v,Ao ?_⟩
        ·omega
        simp only[go_sem];omega
       | true =>
        have B : cmpS a[q + 1].name a[q].name < 0:=of_decide_eq_true v;refine Aw e (BZ a[q + 1].name a[q].name K _ _) ?_;refine Ap 2 e ?_;simp only[go_sem,B];refine u (aw (Al (Ae (bd (Aa fun _ be=>Ai (Aa fun _ bf=>?_))))));have J:q < (a.set (q + 1) a[q]).length:=by rw[gg]; omega
        have a5:(a.map AH).set (q + 1) (D.agg [.val (.string a[q].name),.sl false (a[q].formals.map Bz),.sl false (a[q].params.map Bt),.val (.string a[q].result.name),.sl false (a[q].result.args.map AC),.val (.int .i64 a[q].result.pos),.val (.int .i64 a[q].pos)])=(a.set (q + 1) a[q]).map AH:=by rw[gS]; rfl
        have a6:((a.set (q + 1) a[q]).map AH).set q (D.agg [.val (.string a[q + 1].name),.sl false (a[q + 1].formals.map Bz),.sl false (a[q + 1].params.map Bt),.val (.string a[q + 1].result.name),.sl false (a[q + 1].result.args.map AC),.val (.int .i64 a[q + 1].result.pos),.val (.int .i64 a[q + 1].pos)])=((a.set (q + 1) a[q]).set q a[q + 1]).map AH:=by rw[gS (l:=a.set (q + 1) a[q])]; rfl
        refine Ac 6 fun an aH=>?_;simp only[go_sem,getM c,c,AH];refine bf (Aa fun _ bg=>Ac 9 fun ao aI=>?_);simp only[go_sem,getM t,getM c,a5,t,c,z,AH];try simp (disch:=omega) only[Au,Ba,dZ,ed]
        refine bg (Ac 6 fun ap aJ=>?_);simp only[go_sem,J,getM J,a6,z,AH];try simp (disch:=omega) only[Au,Ba,dZ,ed]
        refine be (Ac 3 fun am aG=>?_);simp only[go_sem,z];try simp (disch:=omega) only[Au,Ba,dZ,ed]
        refine ⟨q,gj _,_,by omega,(Mh hx G).trans b,Oq Ib C I hx G v,Ao ?_⟩;simp only[go_sem]
    ·refine Aa fun _ _=>Aa fun _ bh=>Ac 4 fun Q S=>?_;simp only[go_sem,w];refine bh (Aj (Aq (b7 (Aa fun _ bj=>Ac 2 fun aa ah=>?_))));simp only[go_sem];refine bj (Ah ?_);have a0:k=a.length:=by omega
     rw[a0] at y;refine AY ⟨W,32,1⟩ ?_;simp only[go_sem];have N:a=Bq p env x:=by rw[Bq,M]; exact KT Ib (Names1.inj (Tk p x)) b (Ot y)
     refine Ag ?_;simp only[go_sem];exact Co.of_eq (congrArg (fun l=>D.sl false (l.map AH)) N)
 | some i =>
  have aK:=aE i rfl;have R:D4 env x=some env[i].bound:=by rw[ag]; simp[aK]
  have h1:((0:Int)≤i)=True:=by simp
  have h2:¬ ((i:Int) < 0):=by omega
  have bI:=PB he2 R;refine Ak a2 (a9 _ _) ?_;refine Ad 1 a2 ?_;simp only[go_sem];refine aD (av (Aa fun _ bk=>Aa fun _ bl=>Ac 2 fun g3 bJ=>?_));simp only[go_sem,h1,optI];refine bl (Al (Ac 6 fun _ _=>?_));simp only[go_sem,getM aK];refine bk (Aa fun _ ax=>Aa fun _ ay=>Am fun g5 bK bO aO F X=>Af 2 F ?_);simp only[go_sem];have L:smTy env[i].bound:=bI;cases r:BN p env[i].bound 2 with
  | true =>
   have M:Er p env x=spOf p env[i].bound:=by simp[Er,R,r]
   obtain ⟨j,hj⟩:=NE (by decide) r;have a3:=Me p h env[i].bound L j hj;rw[show Eh ((tyDe p (env[i].bound).name).getD BM) (env[i].bound).args=spOf p env[i].bound by simp[spOf,r]] at a3;refine Ak F (CU p env[i].bound 2 h.1.1 _ _) ?_;refine Ad 0 F ?_;simp only[go_sem,r];refine X (ay (Al (Am fun A bL bP aP O af=>Af 2 O ?_)));simp only[go_sem];refine Ak O (a3 _ _) ?_;refine Ad 1 O ?_;simp only[go_sem];refine af (ax (Aa fun _ bm=>Aa fun _ bn=>?_));have aM:(spOf p env[i].bound).length≤1000000:=(JW h L).1;have a7:∀ s∈(spOf p env[i].bound),smSi s:=(JW h L).2;refine Ac 1 fun g9 ai=>?_
   simp only[go_sem];refine bn (Ai ?_);refine Ay (fun m s=>∃ k a,k≤(spOf p env[i].bound).length∧m=(spOf p env[i].bound).length - k∧a.Perm (spOf p env[i].bound)∧Upto ltSi a k ∧
     Le { env:=[(9,dN k),(7,.own ⟨A,27,1⟩ (spOf p env[i].bound).length)],σ:=[(⟨A,27,1⟩,.arr 46 7 (a.map AH))] } s) (spOf p env[i].bound).length ?_ ?_
   ·refine ⟨0,(spOf p env[i].bound),dX _,rfl,.refl _,Mg _ _,Ao ?_⟩;simp only[go_sem];try trivial
   ·rintro m s ⟨k,a,hk,rfl,b,y,o⟩;refine Az o ?_;clear o;have H:=b.length_eq;by_cases w:k < (spOf p env[i].bound).length
    ·refine Aa fun _ bo=>Aa fun _ bp=>Ac 4 fun Q S=>?_;simp only[go_sem,w];refine bp (Al (Ae (bo (Aa fun _ az=>Ai (Aa fun _ br=>Ac 2 fun al aF=>?_)))));simp only[go_sem];refine br (Ai ?_);refine Ay (fun n s=>∃ a,n≤k∧a.Perm (spOf p env[i].bound)∧Mid ltSi a k n ∧
       Le { env:=[(9,dN k),(10,dN n),(7,.own ⟨A,27,1⟩ (spOf p env[i].bound).length)],σ:=[(⟨A,27,1⟩,.arr 46 7 (a.map AH))] } s) k ?_ ?_
     ·refine ⟨a,ec _,b,Om y,Ao ?_⟩;simp only[go_sem]
     ·clear b y H;rintro n s ⟨a,I,b,C,o⟩;refine Az o ?_;clear o;have H:=b.length_eq;by_cases a1:n=0
      ·subst a1;have P:¬ ((0:Int) < 0):=by decide
       refine Aa fun _ _=>Aa fun _ bs=>AE fun V Z a8 T e u=>Ap 17 e ?_;simp only[go_sem,P,show ((0:Nat):Int)=0 from rfl];try simp (disch:=omega) only[Au,Ba,dZ,ed]
       refine u (bs (Aj (Aq (az (Ac 3 fun U Y=>?_)))));simp only[go_sem];try simp (disch:=omega) only[Au]
       refine ⟨_,?_,k + 1,a,w,rfl,b,On C,Ao ?_⟩
       ·omega
       simp only[go_sem];omega
      ·obtain ⟨q,rfl⟩:∃ q,n=q + 1:=⟨n - 1,by omega⟩
       have c:q + 1 < a.length:=by omega
       have t:q < a.length:=by omega
       have a4:(0:Int) < ((q + 1:Nat):Int):=by omega
       have z:IntKind.i64.wrap (((q + 1:Nat):Int) - 1)=(q:Int):=by rw[Au _ (by omega) (by omega)]; omega
       have hx:=dO t;have G:=dO c;have K:a[q + 1].name.size≤9223372036854775807:=by have:=(a7 _ (b.subset (dP c))).1; omega
       refine Aa fun _ bt=>Aa fun _ aA=>AE fun V Z a8 T e u=>Av 14 e ?_;simp only[go_sem,getM t,getM c,a4,t,c,z];try simp (disch:=omega) only[Au,Ba,dZ,ed]
       cases v:ltSi a[q + 1] a[q] with
       | false =>
        have B : ¬ (cmpS a[q + 1].name a[q].name < 0):=of_decide_eq_false v;refine Aw e (BZ a[q + 1].name a[q].name K _ _) ?_;refine Ap 2 e ?_;simp only[go_sem,B];refine u (aA (Aj (Aq (az (Ac 3 fun U Y=>?_)))));simp only[go_sem];try simp (disch:=omega) only[Au]
        refine ⟨_,?_,k + 1,a,w,rfl,b,Oo Ib C I hx G v,Ao ?_⟩
        ·omega
        simp only[go_sem];omega
       | true =>
        have B : cmpS a[q + 1].name a[q].name < 0:=of_decide_eq_true v;refine Aw e (BZ a[q + 1].name a[q].name K _ _) ?_;refine Ap 2 e ?_;simp only[go_sem,B];refine u (aA (Al (Ae (bt (Aa fun _ bu=>Ai (Aa fun _ bv=>?_))))));have J:q < (a.set (q + 1) a[q]).length:=by rw[gg]; omega
        have a5:(a.map AH).set (q + 1) (D.agg [.val (.string a[q].name),.sl false (a[q].formals.map Bz),.sl false (a[q].params.map Bt),.val (.string a[q].result.name),.sl false (a[q].result.args.map AC),.val (.int .i64 a[q].result.pos),.val (.int .i64 a[q].pos)])=(a.set (q + 1) a[q]).map AH:=by rw[gS]; rfl
        have a6:((a.set (q + 1) a[q]).map AH).set q (D.agg [.val (.string a[q + 1].name),.sl false (a[q + 1].formals.map Bz),.sl false (a[q + 1].params.map Bt),.val (.string a[q + 1].result.name),.sl false (a[q + 1].result.args.map AC),.val (.int .i64 a[q + 1].result.pos),.val (.int .i64 a[q + 1].pos)])=((a.set (q + 1) a[q]).set q a[q + 1]).map AH:=by rw[gS (l:=a.set (q + 1) a[q])]; rfl
        refine Ac 6 fun an aH=>?_;simp only[go_sem,getM c,c,AH];refine bv (Aa fun _ bw=>Ac 9 fun ao aI=>?_);simp only[go_sem,getM t,getM c,a5,t,c,z,AH];try simp (disch:=omega) only[Au,Ba,dZ,ed]
        refine bw (Ac 6 fun ap aJ=>?_);simp only[go_sem,J,getM J,a6,z,AH];try simp (disch:=omega) only[Au,Ba,dZ,ed]
        refine bu (Ac 3 fun am aG=>?_);simp only[go_sem,z];try simp (disch:=omega) only[Au,Ba,dZ,ed]
        refine ⟨q,gj _,_,by omega,(Mh hx G).trans b,Oq Ib C I hx G v,Ao ?_⟩;simp only[go_sem]
    ·refine Aa fun _ _=>Aa fun _ bx=>Ac 4 fun Q S=>?_;simp only[go_sem,w];refine bx (Aj (Aq (bm (Aa fun _ bz=>Ac 2 fun aa ah=>?_))));simp only[go_sem];refine bz (Ah ?_);have a0:k=a.length:=by omega
     rw[a0] at y;refine AY ⟨A,27,1⟩ ?_;simp only[go_sem];have N:a=Bq p env x:=by rw[Bq,M]; exact KT Ib (Names1.inj (PA p env[i].bound)) b (Ot y)
     refine Ag ?_;simp only[go_sem];exact Co.of_eq (congrArg (fun l=>D.sl false (l.map AH)) N)
  | false =>
   refine Ak F (CU p env[i].bound 2 h.1.1 _ _) ?_;refine Ad 0 F ?_;simp only[go_sem,r];refine X (ay (Aj (Aa fun _ bA=>?_)));have bN:spOf p env[i].bound=[]:=by simp[spOf,r]
   have M:Er p env x=[]:=by simp[Er,R,bN]
   refine Ac 2 fun g7 bM=>?_;simp only[go_sem,h2];refine bA (Aj (Ae (ax (Aa fun _ bB=>Aa fun _ bC=>?_))));refine Bh 7 46 7 rfl fun gn _=>?_;refine Ac 1 fun g9 ai=>?_;simp only[go_sem];refine bC (Ai ?_);refine Ay (fun m s=>m=0∧Le { env:=[(9,dN 0),(7,.own ⟨gn,0,0⟩ 0)],σ:=[(⟨gn,0,0⟩,.arr 46 7 [])] } s) 0 ⟨rfl,Ao ?_⟩ ?_
   ·simp only[go_sem];try trivial
   ·rintro m s ⟨rfl,o⟩;refine Az o ?_;clear o;have P:¬ ((0:Int) < 0):=by decide
    refine Aa fun _ _=>Aa fun _ bD=>Ac 4 fun Q S=>?_;simp only[go_sem,P,show ((0:Nat):Int)=0 from rfl];refine bD (Aj (Aq (bB (Aa fun _ bE=>Ac 2 fun aa ah=>?_))));simp only[go_sem];refine bE (Ah ?_);refine AY ⟨gn,0,0⟩ ?_;simp only[go_sem];have N:([]:List Sig)=Bq p env x:=by rw[Bq,M,aaE]
    refine Ag ?_;simp only[go_sem];exact Co.of_eq (congrArg (fun l=>D.sl false (l.map AH)) N)
theorem Fl (l:List Sig) (m:Str) (hl:l.length≤9223372036854775807) (g d:Nat) :
  ACalls E 48 [slSi l,encS m] [] g d (dI (optI (CL l m))) []:=by
 unfold CL;refine Ax 20 Tryz.call48 Tryz.func48 ?_;simp only[go_sem];refine Aa fun _ o=>Ac 1 fun _ _=>?_;simp only[go_sem];refine o (Aa fun _ r=>Aa fun _ t=>Ac 1 fun _ _=>?_);simp only[go_sem];refine t (Ai ?_);refine Ay (fun i s=>∃ k,k≤l.length∧i=l.length - k∧(l.findIdx? fun f=>decide (f.name=m))=((l.drop k).findIdx? fun f=>decide (f.name=m)).map (· + k) ∧
   Le { env:=[(0,slSi l),(1,encS m),(5,dN k)],σ:=[] } s) l.length ?_ ?_
 ·refine ⟨0,dX _,rfl,by simp,Ao ?_⟩;simp only[go_sem];trivial
 ·rintro i s ⟨k,A,rfl,a,e⟩;refine Az e ?_;clear e;by_cases h:k < l.length
  ·rw[MX _ _ _ h] at a;refine Aa fun _ u=>Aa fun _ v=>Ac 4 fun j y=>?_;simp only[go_sem,h];refine v (Al (Ae (u (Aa fun _ w=>Ai (Aa fun _ c=>?_)))));by_cases b:l[k].name=m
   ·rw[if_pos (by simp[b])] at a;refine Ac 7 fun n z=>?_;simp only[go_sem,getM h,b,AH];refine c (Al (Aa fun _ x=>Ac 2 fun _ _=>?_));simp only[go_sem];refine x (Ah ?_);rw[a];refine Ag ?_;simp only[go_sem];exact Co.of_eq (by simp[optI])
   ·rw[if_neg (by simp[b])] at a;refine Ac 7 fun n z=>?_;simp only[go_sem,getM h,b,AH];refine c (Aj (Ae (w (Ac 3 fun _ _=>?_))));simp only[go_sem];try simp (disch:=omega) only[Au]
    refine ⟨_,?_,k + 1,h,rfl,?_,Ao ?_⟩
    ·omega
    ·rw[a]; simp[gp,fq,gq,f5]
    simp only[go_sem];omega
  ·rw[DF l k (by omega)] at a;refine Aa fun _ _=>Aa fun _ p=>Ac 4 fun j y=>?_;simp only[go_sem,h];refine p (Aj (Aq (r (Aa fun _ q=>Ac 1 fun _ _=>?_))));simp only[go_sem];refine q (Ah ?_);rw[a];refine Ag ?_;simp only[go_sem];exact Co.of_eq (by simp[optI])
theorem Mi (a b:List Sig) (ha:a.length≤1000000) (ha2:∀ s∈a,smSi s) (hb:b.length≤1000000) (hb2:∀ s∈b,smSi s) (g d:Nat) :
  ACalls E 94 [slSi a,slSi b] [] g d (slS (GE a b)) []:=by
 refine Ax 44 Tryz.call94 Tryz.func94 ?_;simp only[go_sem];refine Aa fun _ P=>Ac 1 fun _ _=>?_;simp only[go_sem];refine P (Aa fun _ S=>Ac 1 fun _ _=>?_);simp only[go_sem];refine S (Aa fun _ T=>Aa fun _ U=>Ac 1 fun _ _=>?_);simp only[go_sem];refine U (Ai ?_);refine Bh 5 9 1 rfl fun O _=>?_;refine Ay (fun m s=>∃ k o i n,k≤b.length∧m=b.length - k∧n=(GE a (b.take k)).length ∧
   Le { env:=[(0,slSi a),(1,slSi b),(6,dN k),(5,.own ⟨o,i,0⟩ n)],σ:=[(⟨o,i,0⟩,.arr 9 1 ((GE a (b.take k)).map encS))] } s) b.length ?_ ?_
 ·refine ⟨0,O,0,0,dX _,rfl,rfl,Ao ?_⟩;simp only[go_sem,GE,List.filter_nil];try trivial
 ·rintro m s ⟨k,o,i,n,hk,rfl,e,J⟩;refine Az J ?_;clear J;by_cases c:k < b.length
  ·have h:=Ws a b k c;have a6:=XN a (b.take k);have a5:(b.take k).length≤k:=by rw[eD]; omega
   have F:=hb2 _ (dP c);refine Aa fun _ V=>Aa fun _ W=>Ac 4 fun M a0=>?_;simp only[go_sem,c];refine W (Al (Ae (V (Aa fun _ w=>Ai (Aa fun _ X=>Am fun N a1 _ _ z Y=>Af 6 z ?_)))));simp only[go_sem,getM c,AH];refine AA z rfl rfl rfl (Fl a b[k].name (by omega) _ _) (CoL.refl _) ?_;refine Ad 1 z ?_;simp only[go_sem];refine Y (X (Aa fun _ x=>?_));have a7 : N≠o:=Ar a1 i 0 (by simp[go_sem]);cases t:CL a b[k].name with
   | none =>
    have q:covered a b[k]=false:=by simp[covered,t]
    have h0:((-1:Int) < 0)=True:=by simp
    rw[q,if_neg (by simp)] at h;refine AE fun C H K A f p=>Ap 14 f ?_;simp only[go_sem,optI,h0];refine p (x (Al (Am fun v a2 a3 L l y=>Af 7 l ?_)));simp only[go_sem,getM c,AH];refine AG l rfl rfl rfl rfl rfl es44 sz9 by9 ze9 rfl (by decide) ?_;simp only[go_sem];first | refine ⟨⟨by omega,by omega⟩,?_⟩ | skip
    refine Ad 1 l ?_;simp only[go_sem];refine y (w (Ac 3 fun B G=>?_));simp only[go_sem];try simp (disch:=omega) only[Au]
    refine ⟨_,?_,k + 1,v,42,n + 1,c,rfl,by rw[h,dQ,e]; rfl,Ao ?_⟩
    ·omega
    simp only[go_sem,h];first | exact ⟨⟨by omega,e.symm⟩,rfl⟩ | exact ⟨by omega,by omega,e.symm⟩ | exact ⟨by omega,e.symm⟩ | (constructor <;> first | omega | rfl) | omega
   | some j =>
    have Z : a.findIdx? (fun s=>decide (s.name=b[k].name))=some j:=t;obtain ⟨u,_⟩:=eU.1 Z;have I:Wr a b[k].name=a[j]:=by simp[Wr,t,u]
    have h0:¬ (j:Int) < 0:=by omega
    have D:=ha2 _ (dP u);cases r:alike a[j] b[k] with
    | false =>
     have q:covered a b[k]=false:=by simp[covered,I,r]
     rw[q,if_neg (by simp)] at h;refine AE fun C H K A f p=>Av 11 f ?_;simp only[go_sem,optI,h0,getM c,getM u,AH];refine Aw f (JT a[j] b[k] D F _ _) ?_;refine Ap 2 f ?_;simp only[go_sem,r];refine p (x (Al (Am fun v a2 a3 L l y=>Af 7 l ?_)));simp only[go_sem,getM c,AH];refine AG l rfl rfl rfl rfl rfl es44 sz9 by9 ze9 rfl (by decide) ?_;simp only[go_sem];first | refine ⟨⟨by omega,by omega⟩,?_⟩ | skip
     refine Ad 1 l ?_;simp only[go_sem];refine y (w (Ac 3 fun B G=>?_));simp only[go_sem];try simp (disch:=omega) only[Au]
     refine ⟨_,?_,k + 1,v,42,n + 1,c,rfl,by rw[h,dQ,e]; rfl,Ao ?_⟩
     ·omega
     simp only[go_sem,h];first | exact ⟨⟨by omega,e.symm⟩,rfl⟩ | exact ⟨by omega,by omega,e.symm⟩ | exact ⟨by omega,e.symm⟩ | (constructor <;> first | omega | rfl) | omega
    | true =>
     have q:covered a b[k]=true:=by simp[covered,I,r,t]
     rw[q,if_pos rfl] at h;refine AE fun C H K A f p=>Av 11 f ?_;simp only[go_sem,optI,h0,getM c,getM u,AH];refine Aw f (JT a[j] b[k] D F _ _) ?_;refine Ap 2 f ?_;simp only[go_sem,r];refine p (x (Aj (Ae (w (Ac 3 fun B G=>?_)))));simp only[go_sem];try simp (disch:=omega) only[Au]
     refine ⟨_,?_,k + 1,o,i,n,c,rfl,by rw[h]; exact e,Ao ?_⟩
     ·omega
     simp only[go_sem,h];omega
  ·refine Aa fun _ _=>Aa fun _ Q=>Ac 4 fun M a0=>?_;simp only[go_sem,c];refine Q (Aj (Aq (T (Aa fun _ R=>?_))));have:k=b.length:=by omega
   subst this;refine Ac 2 fun _ _=>?_;simp only[go_sem];refine R (Ah ?_);refine AY ⟨o,i,0⟩ ?_;simp only[go_sem];refine Ag ?_;simp only[go_sem];exact Co.of_eq (by simp[])
theorem Co.two {x:Bool} {r r' s s' : D} (h:CoL r.cells r'.cells) (h2:CoL s.cells s'.cells):Co (.sl x [r,s]) (.sl false [r',s']) :=
 Co.sl (fun e=>by cases e) rfl (fun i _ _ ha ha'=>by
  match i,ha,ha' with
  | 0,ha,ha'=>cases ha; cases ha'; exact h
  | 1,ha,ha'=>cases ha; cases ha'; exact h2
  | i + 2,ha,ha'=>cases ha)
def sI:Str:=⟨#[73]⟩
def sN:Str:=⟨#[110]⟩
def sM:Str:=⟨#[109]⟩
def sV:Str:=⟨#[118]⟩
def sigN:Sig:=⟨sN,[],[],.mk sT1 [] 0,0⟩
def sigM:Sig:=⟨sM,[],[],.mk sT1 [] 0,0⟩
def decI:Dec:=⟨2,sI,[],[],[sigN,sigM],ByteArray.empty,[],Bw,Cb,0⟩
def prgI:Prg:=⟨[decI],Cb⟩
def tyI:Ty:=.mk sI [] 0
def envI:List Formal:=[⟨sA1,tyI,0⟩]
def tyA:Ty:=.mk sA1 [] 0
def sN' : Sig:=FW decI [] sigN
def sM' : Sig:=FW decI [] sigM
def setI:List Sig:=[sM',sN']


def envV (x:Ty):List Formal:=[⟨sV,x,0⟩]
def tyV:Ty:=.mk sV [] 0
def abB (l:List Sig):Dec:=⟨0,ByteArray.empty,[],[],l,ByteArray.empty,[],Bw,Cb,0⟩
def acW (l:List Sig):Bool:=decide (EH ⟨[abB l],Cb⟩≤600)
def twice (p:Prg):Prg:=⟨p.decls++p.decls,p.main⟩
def Ci (l:List Formal) (t:Ty):Int:=if t.args.length=0 then optI (l.findIdx? fun f=>isS t.name f.name) else -1
noncomputable def Jk (p:Prg) (env:List Formal) (x:Ty):Bool:=decide (Ci env x < 0) && BN p x 2
noncomputable def Dr (p:Prg) (env:List Formal) (x y:Ty):Bool:=if Jk p env y=true then decide ((GE (Bq p env x) (Bq p env y)).length=0) else decide (BK x y=0)
theorem Lv (p:Prg) (hl:p.decls.length≤2000) (env:List Formal) (he:env.length≤9223372036854775807) (x:Ty) (hx:okTy x) (g d:Nat):ACalls E 93 [AZ p,slFm env,AC x] [] g d (dB (Jk p env x)) []:=by
 have b:=FE env x he hx;change ∀ g d,ACalls E _ _ _ g d (dI (Ci env x)) _ at b;refine Ax 16 Tryz.call93 Tryz.func93 ?_;simp only[go_sem];refine Aa fun _ f=>Ac 3 fun _ _=>?_;simp only[go_sem];refine f (Aa fun _ c=>Am fun _ _ _ _ a e=>Af 2 a ?_);simp only[go_sem];by_cases h0:Ci env x < 0
 ·refine Ak a (b _ _) ?_;refine Af 4 a ?_;simp only[go_sem,h0];refine Ak a (CU p x 2 hl _ _) ?_;refine Ad 2 a ?_;simp only[go_sem];refine e (c (Ah (Ag ?_)));simp only[go_sem];exact Co.of_eq (by simp[Jk,h0])
 ·refine Ak a (b _ _) ?_;refine Ad 7 a ?_;simp only[go_sem,h0];refine e (c (Ah (Ag ?_)));simp only[go_sem];exact Co.of_eq (by simp[Jk,h0])
theorem EK (p:Prg) (h:smPr p) (env:List Formal) (he:env.length≤1000000) (he2:∀ f∈env,smFm f) (x y:Ty) (hx:smTy x) (hy:smTy y) (g d:Nat):ACalls E 49 [AZ p,slFm env,AC x,AC y] [] g d (dB (Dr p env x y)) []:=by
 have k:=Lv p h.1.1 env (by omega) y hy.ok;obtain ⟨l,m⟩:=Ha h he2 hx;obtain ⟨n,o⟩:=Ha h he2 hy;have w:=Mi (Bq p env x) (Bq p env y) l m n o;refine Ax 27 Tryz.call49 Tryz.func49 ?_;simp only[go_sem];refine Aa fun _ q=>Ac 4 fun _ _=>?_;simp only[go_sem];refine q (Aa fun _ r=>Aa fun _ i=>Am fun _ _ _ _ b j=>Af 3 b ?_);simp only[go_sem];cases c:Jk p env y with
 | true =>
  refine Ak b (k _ _) ?_;refine Ad 0 b ?_;simp only[go_sem,c];refine j (i (Al (Aa fun _ s=>AF 11 fun _ _ _ _ a u=>Av 3 a ?_)));simp only[go_sem];refine Aw a (GF p h env he he2 x hx _ _) ?_;refine Av 3 a ?_;simp only[go_sem];refine Aw a (GF p h env he he2 y hy _ _) ?_;refine Aw a (w _ _) ?_;refine Ap 2 a ?_;simp only[go_sem];refine Ad 1 a ?_;simp only[go_sem];refine u (s (Ah (Ag ?_)));simp only[go_sem];exact Co.of_eq (by simp[Dr,c,dB])
 | false =>
  refine Ak b (k _ _) ?_;refine Ad 0 b ?_;simp only[go_sem,c];refine j (i (Aj (Ae (r (Aa fun _ t=>Am fun _ _ _ _ e v=>Af 2 e ?_)))));simp only[go_sem];refine Ak e (CM x y hx.ok _ _) ?_;refine Ad 1 e ?_;simp only[go_sem];refine v (t (Ah (Ag ?_)));simp only[go_sem];exact Co.of_eq (by simp[Dr,c])
noncomputable def EL (p:Prg) (env l:List Formal) (us:List Ty):Nat→List Formal→List Ty→Option Nat
 | k,f :: r,u :: s=>if Dr p env u (AD (l.map (·.name)) us f.bound)=true then EL p env l us (k + 1) r s else some k
 | _,_,_=>none
noncomputable def Hs (p:Prg) (env l:List Formal) (us:List Ty):Option Nat:=EL p env l us 0 l us
theorem KU {p:Prg} {env l:List Formal} {us:List Ty}:∀ {r:List Formal} {s:List Ty} {k i:Nat},EL p env l us k r s=some i→k≤i∧i < k + r.length∧i < k + s.length
 | [],_,_,_,h=>by simp[EL] at h
 | _ :: _,[],_,_,h=>by simp[EL] at h
 | f :: r,u :: s,k,i,h=>by
  unfold EL at h;split at h
  ·have:=KU h;simp only[eB];omega
  ·cases h;simp
theorem Tl {p:Prg} {env l:List Formal} {us:List Ty} {k:Nat} (h1:k < l.length) (h2:k < us.length) :
  EL p env l us k (l.drop k) (us.drop k)=if Dr p env us[k] (AD (l.map (·.name)) us l[k].bound)=true then EL p env l us (k + 1) (l.drop (k + 1)) (us.drop (k + 1)) else some k:=by
 rw[ek h1,ek h2]
 rfl
theorem JX (p:Prg) (h:smPr p) (env:List Formal) (he:env.length≤1000000) (he2:∀ f∈env,smFm f) (l:List Formal) (hl:l.length≤1000000) (hl2:∀ f∈l,smFm f) (us:List Ty) (hu2:∀ t∈us,smTy t) (hlu:l.length≤us.length) (g d:Nat) :
  ACalls E 124 [AZ p,slFm env,slFm l,slTy us] [] g d (dI (optI (Hs p env l us))) []:=by
 have M:=BA l hl;have N:=fun t P=>BB (l.map (·.name)) us (by simpa using hl) hu2 t P;have L:=fun x y R S=>EK p h env he he2 x y R S;have O:=@Tl p env l us;unfold Hs;refine Ax 34 Tryz.call124 Tryz.func124 ?_;simp only[go_sem];refine Aa fun _ A=>Ac 2 fun n _=>?_;simp only[go_sem];refine A (Aa fun _ B=>Aa fun _ C=>Ac 1 fun _ _=>?_);simp only[go_sem];refine C (Ai ?_)
 refine Ay (fun m s=>∃ k,k≤l.length∧m=l.length - k∧EL p env l us 0 l us=EL p env l us k (l.drop k) (us.drop k)∧Le { env:=[(1,slFm env),(2,slFm l),(3,slTy us),(4,.ptr ⟨n,4,0⟩ 0),(9,dN k)],σ:=[(⟨n,4,0⟩,.box 30 (prC p))] } s) l.length ?_ ?_
 ·refine ⟨0,dX _,rfl,rfl,Ao ?_⟩;simp only[go_sem];all_goals first|trivial|omega
 ·rintro m s ⟨k,W,rfl,i,v⟩;refine Az v ?_;clear v;refine Aa fun _ D=>Aa fun _ o=>?_;by_cases b:k < l.length
  ·have j:k < us.length:=by omega
   have e:=O b j;have J:=getM (f:=Bz) b;have Q:=getM (f:=AC) j;have w:=hl2 _ (dP b);have T:=hu2 _ (dP j);generalize l[k]=F at *;generalize us[k]=U at *;have V:smTy (AD (l.map (·.name)) us F.bound):=Bp hu2 _ w.2;have u:=L U _ T V;refine Ac 4 fun z K=>?_;simp only[go_sem,b];refine o (Al (Ae (D (Aa fun _ G=>Ai (Aa fun _ q=>AE fun _ _ _ _ a r=>Av 12 a ?_)))));simp only[go_sem,J,Q];refine Aw a (M _ _) ?_;refine Av 1 a ?_;simp only[go_sem];refine Aw a (N F.bound w.2 _ _) ?_;cases c:Dr p env U (AD (l.map (·.name)) us F.bound) with
   | true =>
    rw[c,if_pos rfl] at e;refine Aw a (u _ _) ?_;refine Ap 1 a ?_;simp only[go_sem,c];refine r (q (Aj (Ae (G (Ac 3 fun _ _=>?_)))));simp only[go_sem];try simp (disch:=omega) only[Au]
    refine ⟨_,?_,k + 1,b,rfl,i.trans e,Ao ?_⟩
    ·omega
    simp only[go_sem];all_goals first|trivial|omega
   | false =>
    rw[c,if_neg Bool.false_ne_true] at e;refine Aw a (u _ _) ?_;refine Ap 1 a ?_;simp only[go_sem,c];refine r (q (Al (Aa fun _ H=>Ac 2 fun _ _=>?_)));simp only[go_sem];refine H (Ah (Ag ?_));simp only[go_sem];exact Co.of_eq (by rw[i,e]; rfl)
  ·have:k=l.length:=by omega
   subst this;refine Ac 4 fun z K=>?_;simp only[go_sem,b];refine o (Aj (Aq (B (Aa fun _ I=>Ac 1 fun _ _=>?_))));simp only[go_sem];refine I (Ah (Ag ?_));simp only[go_sem];exact Co.of_eq (by rw[i,eY]; simp[EL,optI])
mutual
noncomputable def BR (p:Prg) (env:List Formal):Ty→Option Int
 | .mk n a s=>if 0≤Ci env (.mk n a s) then none else if AU p n=0∨(Bf p n).length≠a.length then some s else
   match Dz p env a with
   | some i=>some i
   | none=>(Hs p env (Bf p n) a).map fun i=>(a.getD i (.mk n a s)).pos
noncomputable def Dz (p:Prg) (env:List Formal):List Ty→Option Int
 | []=>none
 | t :: r=>match BR p env t with | some i=>some i | none=>Dz p env r
end
theorem Tm (p:Prg) (env:List Formal) (t:Ty):BR p env t=if 0≤Ci env t then none else if AU p t.name=0∨(Bf p t.name).length≠t.args.length then some t.pos else
   match Dz p env t.args with
   | some i=>some i
   | none=>(Hs p env (Bf p t.name) t.args).map fun i=>(t.args.getD i t).pos:=by
 cases t;rw[BR]
 rfl
theorem NI {p:Prg} {env:List Formal} {l:List Ty} {k:Nat} (h:k < l.length):Dz p env (l.drop k)=match BR p env l[k] with | some i=>some i | none=>Dz p env (l.drop (k + 1)):=by
 rw[ek h,Dz]
def chkD (o:Option Int):D:=.tup [dI (o.getD 0),dB o.isSome]
set_option maxHeartbeats 1000000 in
theorem Ei (p:Prg) (h:smPr p) (env:List Formal) (he:env.length≤1000000) (he2:∀ f∈env,smFm f):∀ (t:Ty),smTy t→∀ g d,ACalls E 77 [AZ p,slFm env,AC t] [] g d (chkD (BR p env t)) []:=by
 refine Ty.ind fun t ih Q g d=>?_;obtain ⟨t1,t2,R⟩:=(Bi t).1 Q;have x:=FE env t (by omega) Q.ok;change ∀ g d,ACalls E _ _ _ g d (dI (Ci env t)) _ at x;have ai:=Fu p t.name h.1.1;have A:=Eg p t.name h.1.1;have P:=(E2 h t.name).2.1;change (Bf p t.name).length≤2000∧∀ f∈Bf p t.name,smFm f at P;have ah:=fun ao=>JX p h env he he2 (Bf p t.name) (by omega) P.2 t.args R ao;have a:=Tm p env t;refine Ax 70 Tryz.call77 Tryz.func77 ?_;simp only[go_sem];refine Aa fun _ X=>Ac 4 fun n _=>?_;simp only[go_sem];refine X (Aa fun _ a6=>Aa fun _ I=>Am fun _ _ _ _ l J=>Af 2 l ?_);simp only[go_sem]
 by_cases h0:0≤Ci env t
 ·rw[if_pos h0] at a;refine Ak l (x _ _) ?_;refine Ad 1 l ?_;simp only[go_sem,h0];refine J (I (Al (Aa fun _ aa=>Ac 2 fun _ _=>?_)));simp only[go_sem];refine aa (Ah ?_);rw[a];refine Ag ?_;simp only[go_sem];exact Co.refl _
 ·rw[if_neg h0] at a;refine Ak l (x _ _) ?_;refine Ad 1 l ?_;simp only[go_sem,h0];refine J (I (Aj (Ae (a6 (Aa fun _ ab=>Am fun _ _ _ _ D ag=>Af 3 D ?_)))));simp only[go_sem];refine Ak D (ai _ _) ?_;refine Ad 1 D ?_;simp only[go_sem];refine ag (ab (Aa fun _ ac=>Aa fun _ u=>Am fun _ _ _ _ c v=>Af 3 c ?_));simp only[go_sem];by_cases j:AU p t.name=0
  ·rw[if_pos (.inl j)] at a;refine Ak c (A _ _) ?_;refine Ad 9 c ?_;simp only[go_sem,j];refine v (u (Al (Aa fun _ ad=>Ac 4 fun V al=>?_)));simp only[go_sem];refine ad (Ah ?_);rw[a];refine Ag ?_;simp only[go_sem];exact Co.refl _
  ·by_cases N:(Bf p t.name).length=t.args.length
   ·rw[if_neg (by simp[j,N])] at a;have B:((Bf p t.name).length:Int)=(t.args.length:Int):=by omega
    refine Ak c (A _ _) ?_;refine Ad 9 c ?_;simp only[go_sem,j,B];refine v (u (Aj (Ae (ac (Aa fun _ ae=>Aa fun _ Y=>Ac 1 fun _ _=>?_)))));simp only[go_sem];refine Y (Ai ?_);refine Ay (fun m s=>∃ k,k≤t.args.length∧m=t.args.length - k∧Dz p env t.args=Dz p env (t.args.drop k)∧Le { env:=[(1,slFm env),(3,.ptr ⟨n,3,0⟩ 0),(5,.ptr ⟨n,5,0⟩ 0),(8,slFm (Bf p t.name)),(9,dN k)],σ:=[(⟨n,3,0⟩,.box 30 (prC p)),(⟨n,5,0⟩,.box 25 (tyC t))] } s) t.args.length ?_ ?_
    ·refine ⟨0,dX _,rfl,rfl,Ao ?_⟩;simp only[go_sem,tyC];all_goals first|trivial|omega
    ·rintro m s ⟨k,hk,rfl,o,O⟩;refine Az O ?_;clear O;refine Aa fun _ Z=>Aa fun _ F=>?_;by_cases b:k < t.args.length
     ·have q:=@NI p env t.args k b;have y:=getM (f:=AC) b;have M:=ih _ (dP b) (R _ (dP b));generalize t.args[k]=U at *;refine Ac 5 fun W am=>?_;simp only[go_sem,b,tyC];refine F (Al (Ae (Z (Aa fun _ a0=>Ai (Aa fun _ G=>AF 12 fun _ _ _ _ e K=>Av 7 e ?_)))));simp only[go_sem,y];cases r:BR p env U with
      | none =>
       rw[r] at q;refine Aw e (M _ _) ?_;refine Ap 4 e ?_;simp only[go_sem,r,chkD];refine Ad 1 e ?_;simp only[go_sem];refine K (G (Aa fun _ a1=>Ac 1 fun S aj=>?_));simp only[go_sem];refine a1 (Aj (Ae (a0 (Ac 3 fun _ _=>?_))));simp only[go_sem,tyC];try simp (disch:=omega) only[Au]
       refine ⟨_,?_,k + 1,b,rfl,o.trans q,Ao ?_⟩
       ·omega
       simp only[go_sem];all_goals first|trivial|omega
      | some i =>
       rw[r] at q;rw[o,q] at a;refine Aw e (M _ _) ?_;refine Ap 4 e ?_;simp only[go_sem,r,chkD];refine Ad 1 e ?_;simp only[go_sem];refine K (G (Aa fun _ a2=>Ac 1 fun S aj=>?_));simp only[go_sem];refine a2 (Al (Aa fun _ a3=>Ac 3 fun _ _=>?_));simp only[go_sem];refine a3 (Ah ?_);rw[a];refine Ag ?_;simp only[go_sem];exact Co.refl _
     ·have:k=t.args.length:=by omega
      subst this;rw[eY,Dz] at o;rw[o] at a;have L:=@KU p env (Bf p t.name) t.args (Bf p t.name) t.args 0;change ∀ i,Hs p env (Bf p t.name) t.args=some i→_ at L;refine Ac 5 fun W am=>?_;simp only[go_sem,b,tyC];refine F (Aj (Aq (ae (Aa fun _ a4=>Am fun _ _ _ _ C af=>Af 5 C ?_))));simp only[go_sem];refine AA C rfl rfl rfl (ah (by omega) _ _) (CoL.refl _) ?_;refine Ad 1 C ?_;simp only[go_sem];refine af (a4 (Aa fun _ a5=>Aa fun _ H=>?_));cases w:Hs p env (Bf p t.name) t.args with
      | none =>
       rw[w] at a;refine Ac 2 fun T ak=>?_;simp only[go_sem,optI,show ((0:Int)≤-1)=False from eq_false (by decide)];refine H (Aj (Ae (a5 (Aa fun _ a7=>Ac 2 fun _ _=>?_))));simp only[go_sem];refine a7 (Ah ?_);rw[a];refine Ag ?_;simp only[go_sem];exact Co.refl _
      | some i =>
       rw[w] at a;obtain ⟨_,_,z⟩:=L i w;have z:i < t.args.length:=by omega
       have y:=getM (f:=AC) z;have an:t.args.getD i t=t.args[i]:=by rw[fl,dO z]; rfl
       rw[eH,an] at a;generalize t.args[i]=U at *;refine Ac 2 fun T ak=>?_;simp only[go_sem,optI];refine H (Al (Aa fun _ a8=>Ac 8 fun _ _=>?_));simp only[go_sem,y];refine a8 (Ah ?_);rw[a];refine Ag ?_;simp only[go_sem];exact Co.refl _
   ·rw[if_pos (.inr N)] at a;have B:¬ ((Bf p t.name).length:Int)=(t.args.length:Int):=by omega
    refine Ak c (A _ _) ?_;refine Ad 9 c ?_;simp only[go_sem,j,B];refine v (u (Al (Aa fun _ a9=>Ac 4 fun V al=>?_)));simp only[go_sem];refine a9 (Ah ?_);rw[a];refine Ag ?_;simp only[go_sem];exact Co.refl _
end Go.Proofs.T
