/- A part of the proof: ZAI. -/
import Derived.Test.YtnkpcgpmgkaakaaGreatZAH
namespace Go.Proofs.T
open Go Go.Ab Go.RowKit
theorem smSi.ok {s:Sig} (h:smSi s):okSi s:=by
 obtain ⟨e,⟨g,b⟩,⟨i,c⟩,d⟩:=h;exact ⟨by omega,⟨by omega,fun f a=>⟨by have:=(b f a).1; omega,smTy.ok _ (b f a).2⟩⟩,⟨by omega,fun f a=>⟨by have:=(c f a).1; omega,smTy.ok _ (c f a).2⟩⟩,smTy.ok _ d⟩
theorem II (q:Bool) (s t:Sig) (hs:okSi s) (g d:Nat):ACalls E 69 [AH s,AH t,dB q] [] g d (dB (DV q s t)) []:=by
 obtain ⟨H,⟨u,v⟩,⟨w,x⟩,o⟩:=hs;refine Ax 54 Tryz.call69 Tryz.func69 ?_;simp only[go_sem];refine Aa fun _ y=>Ac 3 fun _ _=>?_;simp only[go_sem];refine y (Aa fun _ z=>Aa fun _ b=>?_);by_cases c:s.name=t.name
 ·refine Am fun r G _ _ a e=>Af 11 a ?_;simp only[go_sem,c];refine Ak a (Oj q _ _ u v _ _) ?_;cases j:allB (DT q) s.formals t.formals with
  | true =>
   refine Af 8 a ?_;simp only[go_sem];refine Ak a (Po q _ _ w x _ _) ?_;cases m:allB (DU q) s.params t.params with
   | true =>
    refine Af 7 a ?_;simp only[go_sem];refine Ak a (CM _ _ o _ _) ?_;cases hs:same s.result t.result with
    | true =>
     refine Ad 2 a ?_;simp only[go_sem,show decide (BK s.result t.result=0)=true from hs];refine e (b (Aj (Ae (z (Aa fun _ i=>?_)))));cases q with
     | false =>
      refine Ac 17 fun n p=>?_;simp only[go_sem];refine i (Ah ?_);rw[show DV false s t=true by simp[DV,c,j,m,hs]];refine Ag ?_;simp only[go_sem];exact Co.refl _
     | true =>
      by_cases f:s.pos=t.pos
      ·refine Am fun n p _ _ l F=>Af 13 l ?_;simp only[go_sem,f];refine Ak l (Ga _ o _ _ _) ?_;refine Ad 3 l ?_;simp only[go_sem];refine F (i (Ah ?_));rw[show DV true s t=eqTy s.result t.result by simp[DV,c,j,m,hs,f]];refine Ag ?_;simp only[go_sem];exact Co.refl _
      ·refine Ac 17 fun n p=>?_;simp only[go_sem,f];refine i (Ah ?_);rw[show DV true s t=false by simp[DV,f]];refine Ag ?_;simp only[go_sem];exact Co.refl _
    | false =>
     refine Ad 2 a ?_;simp only[go_sem,show decide (BK s.result t.result=0)=false from hs];refine e (b (Al (Aa fun _ A=>Ac 1 fun h k=>?_)));simp only[go_sem];refine A (Ah ?_);rw[show DV q s t=false by simp[DV,hs]];refine Ag ?_;simp only[go_sem];exact Co.refl _
   | false =>
    refine Ad 10 a ?_;simp only[go_sem];refine e (b (Al (Aa fun _ B=>Ac 1 fun h k=>?_)));simp only[go_sem];refine B (Ah ?_);rw[show DV q s t=false by simp[DV,m]];refine Ag ?_;simp only[go_sem];exact Co.refl _
  | false =>
   refine Ad 19 a ?_;simp only[go_sem];refine e (b (Al (Aa fun _ C=>Ac 1 fun h k=>?_)));simp only[go_sem];refine C (Ah ?_);rw[show DV q s t=false by simp[DV,j]];refine Ag ?_;simp only[go_sem];exact Co.refl _
 ·refine Ac 31 fun r G=>?_;simp only[go_sem,c];refine b (Al (Aa fun _ D=>Ac 1 fun h k=>?_));simp only[go_sem];refine D (Ah ?_);rw[show DV q s t=false by simp[DV,c]];refine Ag ?_;simp only[go_sem];exact Co.refl _
theorem JS (s:Sig) (hs:smSi s):smSi (BH s):=by
 obtain ⟨d,⟨c,e⟩,⟨g,j⟩,k⟩:=hs;have b:∀ t,smTy t→smTy (ownF s t):=fun t l=>Bp (aac c) t l;refine ⟨d,⟨by simpa [BH] using c,fun f a=>?_⟩,⟨by simpa [BH] using g,fun f a=>?_⟩,b _ k⟩
 ·simp only[BH,List.mem_mapIdx,fY,ei] at a;obtain ⟨i,n,rfl⟩:=a;have:=Jj i (by omega);have h:(CQ i).size=1 + (decS i).size:=by simp[CQ,ByteArray.size_append]; rfl
  exact ⟨by show (CQ i).size≤_; omega,b _ (e _ (dP _)).2⟩
 ·simp only[BH,eh] at a;obtain ⟨_,⟨x,m,rfl⟩,rfl⟩:=a;exact ⟨by show (0:Nat)≤_; omega,b _ (j x m).2⟩
def alike (s t:Sig):Bool:=S8 (BH s) (BH t)
theorem KP {α:Type} {p q:α→α→Bool} (h:∀ a b,p a b=q a b):∀ x y,allB p x y=allB q x y
 | [],[]=>rfl
 | [],_ :: _=>rfl
 | _ :: _,[]=>rfl
 | a :: x,b :: y=>by simp only[allB,h,KP h x y]
theorem UF (s t:Sig):DV false s t=S8 s t:=by
 simp only[DV,S8,f7,gR,gL];rw[KP (p:=DT false) (q:=S6) (fun a b=>by simp[DT,S6]),KP (p:=DU false) (q:=S7) (fun a b=>by simp[DU,S7])]
theorem JT (s t:Sig) (hs:smSi s) (ht:smSi t) (g d:Nat):ACalls E 132 [AH s,AH t] [] g d (dB (alike s t)) []:=by
 refine Ax 10 Tryz.call132 Tryz.func132 ?_;simp only[go_sem];refine Aa fun _ b=>Ac 3 fun _ _=>?_;simp only[go_sem];refine b (Aa fun _ c=>AF 5 fun _ _ _ _ a e=>Av 1 a ?_);simp only[go_sem];refine Aw a (Fk s hs _ _) ?_;refine Av 1 a ?_;simp only[go_sem];refine Aw a (Fk t ht _ _) ?_;refine Aw a (II false _ _ (JS s hs).ok _ _) ?_;refine Ap 0 a ?_;simp only[go_sem];refine Ad 1 a ?_;simp only[go_sem];refine e (c (Ah ?_));rw[UF];refine Ag ?_;simp only[go_sem];exact Co.refl _
def acN (s:Sig) (us:List Ty):Sig:=CT (AD (s.formals.map (·.name)) us) s
def BV:Ty:=.mk ByteArray.empty [] 0
def Bw:Sig:=⟨ByteArray.empty,[],[],BV,0⟩
theorem S9:Co (.agg zSi) (AH Bw):=.agg (.cons (.refl _) (.cons (.nil _) (.cons (.nil _) (.cons (.refl _) (.cons (.nil _) (.cons (.refl _) (.cons (.refl _) .nil)))))))
theorem Ta:Co (.agg [.val (.string ByteArray.empty),.val (.slice none 0 0),dI 0]) (AC BV):=by
 rw[C0];exact .agg (.cons (.refl _) (.cons (.nil _) (.cons (.refl _) .nil)))
theorem FE (l:List Formal) (t:Ty) (hl:l.length≤9223372036854775807) (ht:okTy t) (g d:Nat) :
  ACalls E 82 [slFm l,AC t] [] g d (dI (if t.args.length=0 then optI (l.findIdx? fun f=>isS t.name f.name) else -1)) []:=by
 have N:=((DJ t).1 ht).2.1;refine Ax 27 Tryz.call82 Tryz.func82 ?_;simp only[go_sem];refine Aa fun _ x=>Ac 2 fun o _=>?_;simp only[go_sem];refine x (Aa fun _ e=>Aa fun _ F=>Ac 1 fun _ _=>?_);simp only[go_sem];refine F (Ai ?_);by_cases h0:t.args.length=0
 ·refine Ay (fun m s=>∃ k,k≤l.length∧m=l.length - k∧(l.findIdx? fun f=>isS t.name f.name)=((l.drop k).findIdx? fun f=>isS t.name f.name).map (· + k) ∧
    Le { env:=[(0,slFm l),(3,.ptr ⟨o,3,0⟩ 0),(5,dN k)],σ:=[(⟨o,3,0⟩,.box 25 (tyC t))] } s) l.length ?_ ?_
  ·refine ⟨0,dX _,rfl,by simp,Ao ?_⟩;simp only[go_sem,tyC];trivial
  ·rintro m s ⟨k,M,rfl,a,u⟩;refine Az u ?_;clear u;by_cases h:k < l.length
   ·rw[MX _ _ _ h] at a;refine Aa fun _ G=>Aa fun _ H=>Ac 10 fun c j=>?_;simp only[go_sem,tyC,h,h0,gr];refine H (Al (Ae (G (Aa fun _ I=>Ai (Aa fun _ q=>?_)))));by_cases b:l[k].name=t.name
    ·rw[if_pos (by simp[isS,b])] at a;refine AE fun w K L v n i=>Ap 8 n ?_;simp only[go_sem,getM h,b];refine i (q (Al (Aa fun _ J=>Ac 2 fun _ _=>?_)));simp only[go_sem];refine J (Ah ?_);rw[if_pos h0,a];refine Ag ?_;simp only[go_sem];exact Co.of_eq (by simp[optI])
    ·rw[if_neg (by simp[isS,b])] at a;refine AE fun w K L v n i=>Ap 8 n ?_;simp only[go_sem,getM h,b];refine i (q (Aj (Ae (I (Ac 3 fun _ _=>?_)))));simp only[go_sem,tyC];try simp (disch:=omega) only[Au]
     refine ⟨_,?_,k + 1,h,rfl,?_,Ao ?_⟩
     ·omega
     ·rw[a]; simp[gp,fq,gq,f5]
     simp only[go_sem];omega
   ·rw[DF l k (by omega)] at a;refine Aa fun _ _=>Aa fun _ y=>Ac 10 fun c j=>?_;simp only[go_sem,h,tyC];refine y (Aj (Aq (e (Aa fun _ z=>Ac 1 fun p r=>?_))));simp only[go_sem];refine z (Ah ?_);rw[if_pos h0,a];refine Ag ?_;simp only[go_sem];exact Co.of_eq (by simp[optI])
 ·refine Ay (fun m s=>m=0∧s=_) 0 ⟨rfl,rfl⟩ ?_;rintro m s ⟨rfl,rfl⟩;by_cases h:0 < l.length
  ·refine Aa fun _ _=>Aa fun _ A=>Ac 10 fun c j=>?_;simp only[go_sem,h,h0,gr,Int.natCast_pos];refine A (Aj (Aq (e (Aa fun _ B=>Ac 1 fun p r=>?_))));simp only[go_sem];refine B (Ah ?_);rw[if_neg h0];refine Ag ?_;simp only[go_sem];exact Co.refl _
  ·refine Aa fun _ _=>Aa fun _ C=>Ac 10 fun c j=>?_;simp only[go_sem,h,Int.natCast_pos];refine C (Aj (Aq (e (Aa fun _ D=>Ac 1 fun p r=>?_))));simp only[go_sem];refine D (Ah ?_);rw[if_neg h0];refine Ag ?_;simp only[go_sem];exact Co.refl _
def D4 (l:List Formal) (t:Ty):Option Ty:=if t.args.length=0 then (l.findIdx? fun f=>isS t.name f.name).bind fun i=>l[i]?.map (·.bound) else none
def acZ (ls:List (List Formal)) (k:Nat):List Formal:=(ls.take k).flatten
def cnt {α:Type} (f:α→Nat→Nat):List α→Nat→Nat
 | [],n=>n
 | a :: r,n=>if n≤2000 then cnt f r (f a n) else n
theorem EZ {α:Type} {f:α→Nat→Nat} {l:List α} {n:Nat} (h:¬ n≤2000):cnt f l n=n:=by cases l <;> simp[cnt,h]
theorem Ra {α:Type} {f:α→Nat→Nat} (M:Nat):∀ (l:List α) (n:Nat),(∀ a∈l,∀ n,n≤2000→f a n≤M)→cnt f l n≤Nat.max n M
 | [],n,_=>Nat.le_max_left ..
 | a :: r,n,h=>by
  simp only[cnt];split
  ·rename_i hn;refine ef (Ra M r (f a n) fun x hx=>h x (ea _ hx)) ?_;exact Nat.max_le.2 ⟨ef (h a dY n hn) (Nat.le_max_right ..),Nat.le_max_right ..⟩
  ·exact Nat.le_max_left ..
theorem E0 {α:Type} {f:α→Nat→Nat} {l:List α} {k n:Nat} (h:k < l.length) (hn:n≤2000):cnt f (l.drop k) n=cnt f (l.drop (k + 1)) (f l[k] n):=by
 rw[MT _ _ h]; simp only[cnt]; rw[if_pos hn]
theorem Gy:∀ (l:List Ty) (n:Nat),Cg l n=cnt count l n
 | [],n=>by simp[Cg,cnt]
 | t :: r,n=>by simp only[Cg,cnt,Gy r]
def Cw (p:Param) (n:Nat):Nat:=count p.type (n + 1 + p.name.size / 50)
def BG (p:Formal) (n:Nat):Nat:=count p.bound (n + 1 + p.name.size / 50)
def Bb (s:Sig) (n:Nat):Nat:=count s.result (cnt Cw s.params (cnt BG s.formals (n + s.name.size / 50)))
theorem lemax (a b c:Nat) (h:c≤Nat.max a b):c≤a∨c≤b:=by
 rcases Nat.le_total a b with d | d
 ·right; rwa [show Nat.max a b=b from Nat.max_eq_right d] at h
 ·left; rwa [show Nat.max a b=a from Nat.max_eq_left d] at h
theorem Gb (t:Ty) (n:Nat) (h:okTy t):count t n≤n + big∨count t n≤2000 + big:=by
 have:=JF t n h;rcases Nat.le_total n 2000 with a | a
 ·right; rwa [show Nat.max n 2000=2000 from Nat.max_eq_right a] at this
 ·left; rwa [show Nat.max n 2000=n from Nat.max_eq_left a] at this
theorem E6 {α:Type} {f:α→Nat→Nat} (M:Nat) (l:List α) (n:Nat) (h:∀ a∈l,∀ n,n≤2000→f a n≤M):cnt f l n≤n∨cnt f l n≤M:=lemax _ _ _ (Ra M l n h)
theorem KQ (p:Param) (h:okPa p) (n:Nat) (hn:n≤2000):Cw p n≤3 * big:=by
 have a:=h.1;have:=Gb p.type (n + 1 + p.name.size / 50) h.2;unfold Cw;unfold big at *;omega
theorem IJ (p:Formal) (h:okFm p) (n:Nat) (hn:n≤2000):BG p n≤3 * big:=by
 have a:=h.1;have:=Gb p.bound (n + 1 + p.name.size / 50) h.2;unfold BG;unfold big at *;omega
theorem G6 (s:Sig) (h:okSi s) (n:Nat):Bb s n≤n + 6 * big:=by
 obtain ⟨k,⟨l,d⟩,⟨m,e⟩,f⟩:=h;have g:=E6 (3 * big) s.formals (n + s.name.size / 50) (fun a b n c=>IJ a (d a b) n c);have i:=E6 (3 * big) s.params (cnt BG s.formals (n + s.name.size / 50)) (fun a b n c=>KQ a (e a b) n c);have j:=Gb s.result (cnt Cw s.params (cnt BG s.formals (n + s.name.size / 50))) f;unfold Bb;unfold big at *;omega
theorem Ny (l:List Param) (n:Nat) (hl:l.length≤9223372036854775807) (hl2:∀ a∈l,okPa a) (hn:n≤3000000000000000000) (g d:Nat):ACalls E 62 [slPa l,dN n] [] g d (dN (cnt Cw l n)) []:=by
 have I:big=184467440737097518:=rfl;refine Ax 33 Tryz.call62 Tryz.func62 ?_;simp only[go_sem];refine Aa fun _ u=>Ac 1 fun _ _=>?_;simp only[go_sem];refine u (Aa fun _ q=>Aa fun _ x=>Ac 1 fun o _=>?_);simp only[go_sem];refine x (Ai ?_);refine Ay (fun m s=>∃ k b,k≤l.length∧m=l.length - k∧b≤n + 3 * big∧cnt Cw (l.drop k) b=cnt Cw l n ∧
   Le { env:=[(0,slPa l),(1,dN b),(5,dN k)],σ:=[] } s) l.length ?_ ?_
 ·refine ⟨0,n,dX _,rfl,by omega,rfl,Ao ?_⟩;simp only[go_sem];trivial
 ·rintro m s ⟨k,b,J,rfl,K,e,h⟩;refine Az h ?_;clear h;by_cases c:k < l.length
  ·have o:=getM (f:=Bt) c;by_cases h:b≤2000
   ·have j : (b : Int)≤2000:=by omega
    have G:=(hl2 _ (dP c)).1;have H:=KQ _ (hl2 _ (dP c)) b h;refine Aa fun _ y=>Aa fun _ z=>Ac 8 fun p r=>?_;simp only[go_sem,j,c];refine z (Al (Ae (y (Aa fun _ A=>Ai (AF 16 fun _ _ _ _ i D=>Av 15 i ?_)))));simp only[go_sem,o];try simp (disch:=omega) only[Au,dZ]
    refine AI i rfl rfl rfl (DZ _ (hl2 _ (dP c)).2 (b + 1 + l[k].name.size / 50) _ _ (by omega)) (CoL.refl _) rfl ?_;refine Ap 0 i ?_;simp only[go_sem];refine Ad 1 i ?_;simp only[go_sem];refine D (A (Ac 3 fun _ _=>?_));simp only[go_sem];try simp (disch:=omega) only[Au]
    rw[E0 c h] at e;refine ⟨_,?_,k + 1,Cw l[k] b,c,rfl,by omega,e,Ao ?_⟩
    ·omega
    simp only[go_sem,Cw];omega
   ·have j : ¬ (b : Int)≤2000:=by omega
    refine Aa fun _ _=>Aa fun _ B=>Ac 8 fun p r=>?_;simp only[go_sem,j,c];refine B ?_;rw[EZ h] at e;subst e;refine Aj (Aq (q (Aa fun _ C=>Ac 2 fun t F=>?_)));simp only[go_sem];refine C (Ah (Ag ?_));simp only[go_sem];exact Co.refl _
  ·refine Aa fun _ _=>Aa fun _ v=>Ac 8 fun p r=>?_;simp only[go_sem,c];refine v ?_;rw[DF _ _ (by omega)] at e;simp only[cnt] at e;subst e;refine Aj (Aq (q (Aa fun _ w=>Ac 2 fun t F=>?_)));simp only[go_sem];refine w (Ah (Ag ?_));simp only[go_sem];exact Co.refl _
theorem Nz (l:List Formal) (n:Nat) (hl:l.length≤9223372036854775807) (hl2:∀ a∈l,okFm a) (hn:n≤3000000000000000000) (g d:Nat):ACalls E 63 [slFm l,dN n] [] g d (dN (cnt BG l n)) []:=by
 have I:big=184467440737097518:=rfl;refine Ax 33 Tryz.call63 Tryz.func63 ?_;simp only[go_sem];refine Aa fun _ u=>Ac 1 fun _ _=>?_;simp only[go_sem];refine u (Aa fun _ q=>Aa fun _ x=>Ac 1 fun o _=>?_);simp only[go_sem];refine x (Ai ?_);refine Ay (fun m s=>∃ k b,k≤l.length∧m=l.length - k∧b≤n + 3 * big∧cnt BG (l.drop k) b=cnt BG l n ∧
   Le { env:=[(0,slFm l),(1,dN b),(5,dN k)],σ:=[] } s) l.length ?_ ?_
 ·refine ⟨0,n,dX _,rfl,by omega,rfl,Ao ?_⟩;simp only[go_sem];trivial
 ·rintro m s ⟨k,b,J,rfl,K,e,h⟩;refine Az h ?_;clear h;by_cases c:k < l.length
  ·have o:=getM (f:=Bz) c;by_cases h:b≤2000
   ·have j : (b : Int)≤2000:=by omega
    have G:=(hl2 _ (dP c)).1;have H:=IJ _ (hl2 _ (dP c)) b h;refine Aa fun _ y=>Aa fun _ z=>Ac 8 fun p r=>?_;simp only[go_sem,j,c];refine z (Al (Ae (y (Aa fun _ A=>Ai (AF 16 fun _ _ _ _ i D=>Av 15 i ?_)))));simp only[go_sem,o];try simp (disch:=omega) only[Au,dZ]
    refine AI i rfl rfl rfl (DZ _ (hl2 _ (dP c)).2 (b + 1 + l[k].name.size / 50) _ _ (by omega)) (CoL.refl _) rfl ?_;refine Ap 0 i ?_;simp only[go_sem];refine Ad 1 i ?_;simp only[go_sem];refine D (A (Ac 3 fun _ _=>?_));simp only[go_sem];try simp (disch:=omega) only[Au]
    rw[E0 c h] at e;refine ⟨_,?_,k + 1,BG l[k] b,c,rfl,by omega,e,Ao ?_⟩
    ·omega
    simp only[go_sem,BG];omega
   ·have j : ¬ (b : Int)≤2000:=by omega
    refine Aa fun _ _=>Aa fun _ B=>Ac 8 fun p r=>?_;simp only[go_sem,j,c];refine B ?_;rw[EZ h] at e;subst e;refine Aj (Aq (q (Aa fun _ C=>Ac 2 fun t F=>?_)));simp only[go_sem];refine C (Ah (Ag ?_));simp only[go_sem];exact Co.refl _
  ·refine Aa fun _ _=>Aa fun _ v=>Ac 8 fun p r=>?_;simp only[go_sem,c];refine v ?_;rw[DF _ _ (by omega)] at e;simp only[cnt] at e;subst e;refine Aj (Aq (q (Aa fun _ w=>Ac 2 fun t F=>?_)));simp only[go_sem];refine w (Ah (Ag ?_));simp only[go_sem];exact Co.refl _
theorem FV (s:Sig) (n:Nat) (hs:okSi s) (hn:n≤1500000000000000000) (g d:Nat):ACalls E 64 [AH s,dN n] [] g d (dN (Bb s n)) []:=by
 have r:big=184467440737097518:=rfl;obtain ⟨q,⟨h,e⟩,⟨i,f⟩,j⟩:=hs;have o:=E6 (3 * big) s.formals (n + s.name.size / 50) (fun a c n hn=>IJ a (e a c) n hn);have p:=E6 (3 * big) s.params (cnt BG s.formals (n + s.name.size / 50)) (fun a c n hn=>KQ a (f a c) n hn);refine Ax 20 Tryz.call64 Tryz.func64 ?_;simp only[go_sem];refine Aa fun _ k=>Ac 2 fun _ _=>?_;simp only[go_sem];refine k (Aa fun _ l=>AF 15 fun _ _ _ _ b m=>Av 12 b ?_);simp only[go_sem];try simp (disch:=omega) only[Au,dZ]
 refine AI b rfl rfl rfl (Nz s.formals (n + s.name.size / 50) h e (by omega) _ _) (CoL.refl _) rfl ?_;refine AI b rfl rfl rfl (Ny s.params _ i f (by omega) _ _) (CoL.refl _) rfl ?_;refine AI b rfl rfl rfl (DZ _ j _ _ _ (by omega)) (CoL.refl _) rfl ?_;refine Ap 0 b ?_;simp only[go_sem];refine Ad 1 b ?_;simp only[go_sem];refine m (l (Ah (Ag ?_)));simp only[go_sem];exact Co.refl _
mutual
def Bc:Ex→Nat→Nat
 | .mk _ nm ty ta ks _,n=>IK ks (cnt count ta (count ty (n + nm.size / 50)))
def IK:List Ex→Nat→Nat
 | [],n=>n
 | t :: r,n=>if n≤2000 then IK r (Bc t n) else n
end
theorem L9:∀ (l:List Ex) (n:Nat),IK l n=cnt Bc l n
 | [],n=>by simp[IK,cnt]
 | t :: r,n=>by simp only[IK,cnt,L9 r]
theorem FF (e:Ex) (n:Nat):Bc e n=cnt Bc e.kids (cnt count e.targs (count e.type (n + e.name.size / 50))):=by
 cases e; rw[Bc,L9]; rfl
theorem NA (t:Ty) (h:okTy t) (n:Nat) (hn:n≤2000):count t n≤3 * big:=by
 have:=Gb t n h;unfold big at *;omega
theorem Ep:∀ e:Ex,okEx e→∀ n,Bc e n≤n + 2 * big∨Bc e n≤3 * big:=by
 refine Ex.ind fun e ih h n=>?_;obtain ⟨m,d,⟨o,f⟩,p,g⟩:=(EW e).1 h;have j:=Gb e.type (n + e.name.size / 50) d;have k:=E6 (3 * big) e.targs (count e.type (n + e.name.size / 50)) (fun a b n c=>NA a (f a b) n c);have i:∀ a∈e.kids,∀ n,n≤2000→Bc a n≤3 * big:=fun a b n c=>by
  have:=ih a b (g a b) n;unfold big at *;omega
 have l:=E6 (3 * big) e.kids (cnt count e.targs (count e.type (n + e.name.size / 50))) i;rw[FF];unfold big at *;omega
theorem E7:∀ e:Ex,okEx e→∀ (n g d:Nat),n≤3000000000000000000→ACalls E 61 [AK e,dN n] [] g d (dN (Bc e n)) []:=by
 have ax:big=184467440737097518:=rfl;refine Ex.ind fun e ih he n g d L=>?_;obtain ⟨h1,D,⟨h3,v⟩,h5,t⟩:=(EW e).1 he;have a1:=Gb e.type (n + e.name.size / 50) D;have a2:=E6 (3 * big) e.targs (count e.type (n + e.name.size / 50)) (fun a ha n L=>NA a (v a ha) n L);refine Ax 53 Tryz.call61 Tryz.func61 ?_;simp only[go_sem];refine Aa fun _ S=>Ac 2 fun o _=>?_;simp only[go_sem];refine S (Aa fun _ a0=>Am fun p _ _ _ z ai=>Af 8 z ?_);simp only[go_sem];try simp (disch:=omega) only[Au,dZ]
 refine AA z rfl rfl rfl (DZ _ D (n + e.name.size / 50) _ _ (by omega)) (CoL.refl _) ?_;refine Ad 1 z ?_;simp only[go_sem];refine ai (a0 (Aa fun _ I=>Aa fun _ ad=>Ac 1 fun _ _=>?_));simp only[go_sem];refine ad (Ai ?_);refine Ay (fun m s=>∃ k b,k≤e.targs.length∧m=e.targs.length - k∧b≤n + 4 * big∧cnt count (e.targs.drop k) b=cnt count e.targs (count e.type (n + e.name.size / 50)) ∧
   Le { env:=[(1,dN b),(2,.ptr ⟨o,2,0⟩ 0),(5,dN k)],σ:=[(⟨o,2,0⟩,.box 28 (exC e))] } s) e.targs.length ?_ ?_
 ·refine ⟨0,count e.type (n + e.name.size / 50),dX _,rfl,by omega,rfl,Ao ?_⟩;simp only[go_sem];trivial
 ·rintro m s ⟨k,b,K,rfl,M,h,i⟩;refine Az i ?_;clear i;by_cases c:k < e.targs.length
  ·have p:=getM (f:=AC) c;by_cases i:b≤2000
   ·have j : (b : Int)≤2000:=by omega
    have F:=Gb _ b (v _ (dP c));refine Aa fun _ ae=>Aa fun _ af=>Ac 9 fun C J=>?_;simp only[go_sem,j,c];refine af (Al (Ae (ae (Aa fun _ ag=>Ai (Am fun _ _ _ _ B aj=>Af 6 B ?_)))));simp only[go_sem,p];refine AA B rfl rfl rfl (DZ _ (v _ (dP c)) b _ _ (by omega)) (CoL.refl _) ?_;refine Ad 1 B ?_;simp only[go_sem];refine aj (ag (Ac 3 fun _ _=>?_));simp only[go_sem];try simp (disch:=omega) only[Au]
    rw[E0 c i] at h;refine ⟨_,?_,k + 1,count e.targs[k] b,c,rfl,by omega,h,Ao ?_⟩
    ·omega
    simp only[go_sem];omega
   ·have j : ¬ (b : Int)≤2000:=by omega
    refine Aa fun _ _=>Aa fun _ ah=>Ac 9 fun C J=>?_;simp only[go_sem,j,c];refine ah ?_;rw[EZ i] at h;subst h;refine Aj (Aq (I (Aa fun _ G=>Aa fun _ T=>Ac 1 fun O am=>?_)));simp only[go_sem];refine T (Ai ?_);generalize w:cnt count e.targs (count e.type (n + e.name.size / 50))=A at *;have R:A≤n + 4 * big:=by omega
    refine Ay (fun m s=>∃ k b,k≤e.kids.length∧m=e.kids.length - k∧b≤n + 7 * big∧cnt Bc (e.kids.drop k) b=Bc e n ∧
      Le { env:=[(1,dN b),(2,.ptr ⟨o,2,0⟩ 0),(6,dN k)],σ:=[(⟨o,2,0⟩,.box 28 (exC e))] } s) e.kids.length ?_ ?_
    ·refine ⟨0,A,dX _,rfl,by omega,by rw[FF,w]; rfl,Ao ?_⟩;simp only[go_sem];trivial
    ·rintro m s ⟨k,b,K,rfl,M,h,i⟩;refine Az i ?_;clear i;by_cases c:k < e.kids.length
     ·have p:=getM (f:=AK) c;by_cases i:b≤2000
      ·have j : (b : Int)≤2000:=by omega
       have F:=Ep _ (t _ (dP c)) b;refine Aa fun _ U=>Aa fun _ V=>Ac 9 fun q r=>?_;simp only[go_sem,j,c];refine V (Al (Ae (U (Aa fun _ W=>Ai (Am fun Q ao ap N l x=>Af 6 l ?_)))));simp only[go_sem,p];refine AA l rfl rfl rfl (ih _ (dP c) (t _ (dP c)) b _ _ (by omega)) (CoL.refl _) ?_;refine Ad 1 l ?_;simp only[go_sem];refine x (W (Ac 3 fun P an=>?_));simp only[go_sem];try simp (disch:=omega) only[Au]
       rw[E0 c i] at h;refine ⟨_,?_,k + 1,Bc e.kids[k] b,c,rfl,by omega,h,Ao ?_⟩
       ·omega
       simp only[go_sem];omega
      ·have j : ¬ (b : Int)≤2000:=by omega
       refine Aa fun _ _=>Aa fun _ X=>Ac 9 fun q r=>?_;simp only[go_sem,j,c];refine X ?_;rw[EZ i] at h;refine Aj (Aq (G (Aa fun _ Y=>Ac 2 fun u y=>?_)));simp only[go_sem];refine Y (Ah ?_);rw[← h];refine Ag ?_;simp only[go_sem];exact Co.refl _
     ·refine Aa fun _ _=>Aa fun _ Z=>Ac 9 fun q r=>?_;simp only[go_sem,c];refine Z ?_;rw[DF _ _ (by omega)] at h;simp only[cnt] at h;refine Aj (Aq (G (Aa fun _ a3=>Ac 2 fun u y=>?_)));simp only[go_sem];refine a3 (Ah ?_);rw[← h];refine Ag ?_;simp only[go_sem];exact Co.refl _
  ·refine Aa fun _ _=>Aa fun _ a4=>Ac 9 fun C J=>?_;simp only[go_sem,c];refine a4 ?_;rw[DF _ _ (by omega)] at h;simp only[cnt] at h;subst h;refine Aj (Aq (I (Aa fun _ H=>Aa fun _ a5=>Ac 1 fun O am=>?_)));simp only[go_sem];refine a5 (Ai ?_);generalize w:cnt count e.targs (count e.type (n + e.name.size / 50))=A at *;have R:A≤n + 4 * big:=by omega
   refine Ay (fun m s=>∃ k b,k≤e.kids.length∧m=e.kids.length - k∧b≤n + 7 * big∧cnt Bc (e.kids.drop k) b=Bc e n ∧
     Le { env:=[(1,dN b),(2,.ptr ⟨o,2,0⟩ 0),(6,dN k)],σ:=[(⟨o,2,0⟩,.box 28 (exC e))] } s) e.kids.length ?_ ?_
   ·refine ⟨0,A,dX _,rfl,by omega,by rw[FF,w]; rfl,Ao ?_⟩;simp only[go_sem];trivial
   ·rintro m s ⟨k,b,K,rfl,M,h,i⟩;refine Az i ?_;clear i;by_cases c:k < e.kids.length
    ·have p:=getM (f:=AK) c;by_cases i:b≤2000
     ·have j : (b : Int)≤2000:=by omega
      have F:=Ep _ (t _ (dP c)) b;refine Aa fun _ a6=>Aa fun _ a7=>Ac 9 fun q r=>?_;simp only[go_sem,j,c];refine a7 (Al (Ae (a6 (Aa fun _ a8=>Ai (Am fun Q ao ap N l x=>Af 6 l ?_)))));simp only[go_sem,p];refine AA l rfl rfl rfl (ih _ (dP c) (t _ (dP c)) b _ _ (by omega)) (CoL.refl _) ?_;refine Ad 1 l ?_;simp only[go_sem];refine x (a8 (Ac 3 fun P an=>?_));simp only[go_sem];try simp (disch:=omega) only[Au]
      rw[E0 c i] at h;refine ⟨_,?_,k + 1,Bc e.kids[k] b,c,rfl,by omega,h,Ao ?_⟩
      ·omega
      simp only[go_sem];omega
     ·have j : ¬ (b : Int)≤2000:=by omega
      refine Aa fun _ _=>Aa fun _ a9=>Ac 9 fun q r=>?_;simp only[go_sem,j,c];refine a9 ?_;rw[EZ i] at h;refine Aj (Aq (H (Aa fun _ aa=>Ac 2 fun u y=>?_)));simp only[go_sem];refine aa (Ah ?_);rw[← h];refine Ag ?_;simp only[go_sem];exact Co.refl _
    ·refine Aa fun _ _=>Aa fun _ ab=>Ac 9 fun q r=>?_;simp only[go_sem,c];refine ab ?_;rw[DF _ _ (by omega)] at h;simp only[cnt] at h;refine Aj (Aq (H (Aa fun _ ac=>Ac 2 fun u y=>?_)));simp only[go_sem];refine ac (Ah ?_);rw[← h];refine Ag ?_;simp only[go_sem];exact Co.refl _
def cntS (v:Str) (n:Nat):Nat:=n + 1 + v.size / 50
def Bk (d:Dec) (n:Nat):Nat:=cnt Cw d.fields (cnt BG d.formals (n + 1 + d.name.size / 50 + d.recv.size / 50))
def B0 (d:Dec) (n:Nat):Nat:=if n≤2000 then Bc d.body (Bb d.sig n) else n
def Cy (d:Dec) (n:Nat):Nat:=B0 d (cnt cntS d.vars (cnt Bb d.sigs (Bk d n)))
def EH (p:Prg):Nat:=cnt Cy p.decls (Bc p.main 0)
theorem Qo (v:Str) (h:v.size≤9223372036854775807) (n:Nat) (hn:n≤2000):cntS v n≤2 * big:=by unfold cntS big; omega
theorem NB (s:Sig) (h:okSi s) (n:Nat) (hn:n≤2000):Bb s n≤7 * big:=by
 have:=G6 s h n;unfold big at *;omega
theorem Pp (d:Dec) (h:okDe d) (n:Nat):Bk d n≤n + 3 * big∨Bk d n≤3 * big:=by
 obtain ⟨j,⟨k,e⟩,⟨l,f⟩,_,m,_⟩:=h;have g:=E6 (3 * big) d.formals (n + 1 + d.name.size / 50 + d.recv.size / 50) (fun a b n c=>IJ a (e a b) n c);have i:=E6 (3 * big) d.fields (cnt BG d.formals (n + 1 + d.name.size / 50 + d.recv.size / 50)) (fun a b n c=>KQ a (f a b) n c);unfold Bk;unfold big at *;omega
theorem Wm (d:Dec) (h:okDe d) (n:Nat):B0 d n≤n∨B0 d n≤10 * big:=by
 obtain ⟨_,_,_,_,_,_,a,b⟩:=h;unfold B0;split
 ·rename_i f;have c:=G6 d.sig a n;have e:=Ep d.body b (Bb d.sig n);unfold big at *;omega
 ·left; exact ec _
theorem UG (d:Dec) (h:okDe d) (n:Nat) (hn:n≤2000):Cy d n≤10 * big:=by
 have h0:=h;obtain ⟨k,⟨o,p⟩,⟨q,r⟩,⟨s,e⟩,t,⟨u,c⟩,l,m⟩:=h;have f:=Pp d h0 n;have g:=E6 (7 * big) d.sigs (Bk d n) (fun a b n hn=>NB a (e a b) n hn);have i:=E6 (7 * big) d.vars (cnt Bb d.sigs (Bk d n)) (fun a b n hn=>ef (Qo a (c a b) n hn) (by unfold big; omega));have j:=Wm d h0 (cnt cntS d.vars (cnt Bb d.sigs (Bk d n)));unfold Cy;unfold big at *;omega
theorem UH (p:Prg) (hp:okPr p) (g d:Nat):ACalls E 34 [AZ p] [] g d (dN (EH p)) []:=by
 have bm:big=184467440737097518:=rfl;obtain ⟨⟨h1,h2⟩,h3⟩:=hp;have b0:=Ep p.main h3 0;refine Ax 94 Tryz.call34 Tryz.func34 ?_;simp only[go_sem];refine Aa fun _ ax=>Ac 2 fun t _=>?_;simp only[go_sem];refine ax (Aa fun _ aF=>Am fun g1 _ _ _ X b2=>Af 2 X ?_);simp only[go_sem];refine AA X rfl rfl rfl (E7 _ h3 0 _ _ (by omega)) (CoL.refl _) ?_;refine Ad 1 X ?_;simp only[go_sem];refine b2 (aF (Aa fun _ ae=>Aa fun _ aR=>Ac 1 fun g2 _=>?_));simp only[go_sem];refine aR (Ai ?_);refine Ay (fun m s=>∃ k b,k≤p.decls.length∧m=p.decls.length - k∧b≤10 * big∧cnt Cy (p.decls.drop k) b=EH p ∧
   Le { env:=[(1,.ptr ⟨t,1,0⟩ 0),(3,dN b),(4,dN k)],σ:=[(⟨t,1,0⟩,.box 30 (prC p))] } s) p.decls.length ?_ ?_
 ·refine ⟨0,Bc p.main 0,dX _,rfl,by omega,rfl,Ao ?_⟩;simp only[go_sem];trivial
 ·rintro m s ⟨k,b,hk,rfl,bo,o,M⟩;refine Az M ?_;clear M;by_cases q:k < p.decls.length
  ·by_cases M:b≤2000
   ·have W : (b : Int)≤2000:=by omega
    have g1:=getM (f:=Ce) q;have U:=h2 _ (dP q);have b6:=U;rw[E0 q M] at o;have b1:=UG _ U b M;generalize p.decls[k]=D at *;obtain ⟨i1,⟨i2,i3⟩,⟨i4,i5⟩,⟨i6,i7⟩,i8,⟨i9,am⟩,x,y⟩:=U;have a1:=Pp D b6 b;have f1:=E6 (3 * big) D.formals (b + 1 + D.name.size / 50 + D.recv.size / 50) (fun a ha n hn=>IJ a (i3 a ha) n hn);refine Aa fun _ aW=>Aa fun _ aX=>Ac 9 fun K ai=>?_;simp only[go_sem,W,q];refine aX (Al (Ae (aW (Aa fun _ w=>Ai (Aa fun _ aY=>Ac 7 fun L _=>?_)))));simp only[go_sem,g1];refine aY (Aa fun _ aZ=>AF 18 fun _ _ _ _ Q b4=>Av 16 Q ?_);simp only[go_sem]
    try simp (disch:=omega) only[Au,dZ]
    refine AI Q rfl rfl rfl (Nz D.formals (b + 1 + D.name.size / 50 + D.recv.size / 50) i2 i3 (by omega) _ _) (CoL.refl _) rfl ?_;refine AI Q rfl rfl rfl (Ny D.fields _ i4 i5 (by omega) _ _) (CoL.refl _) rfl ?_;refine Ap 0 Q ?_;simp only[go_sem];refine Ad 1 Q ?_;simp only[go_sem];refine b4 (aZ (Aa fun _ aa=>Aa fun _ ay=>Ac 1 fun _ _=>?_));simp only[go_sem];refine ay (Ai ?_);generalize hH:Bk D b=H at *;have aw:H=cnt Cw D.fields (cnt BG D.formals (b + 1 + D.name.size / 50 + D.recv.size / 50)):=by rw[← hH]; rfl
    rw[← aw];refine Ay (fun m s=>∃ j u,j≤D.sigs.length∧m=D.sigs.length - j∧u≤14 * big∧cnt Bb D.sigs (Bk D b)=cnt Bb (D.sigs.drop j) u ∧
      Le { env:=[(1,.ptr ⟨t,1,0⟩ 0),(3,dN u),(4,dN k),(5,.ptr ⟨L,5,0⟩ 0),(6,dN j)],σ:=[(⟨t,1,0⟩,.box 30 (prC p)),(⟨L,5,0⟩,.box 48 (deC D))] } s) D.sigs.length ?_ ?_
    ·refine ⟨0,H,dX _,rfl,by omega,by rw[hH]; rfl,Ao ?_⟩;simp only[go_sem];trivial
    ·rintro m s ⟨j,u,hj,rfl,bp,G,al⟩;refine Az al ?_;clear al;by_cases c:j < D.sigs.length
     ·have g2:=getM (f:=AH) c;by_cases Z:u≤2000
      ·have a0 : (u:Int)≤2000:=by omega
       have R:=NB _ (i7 _ (dP c)) u Z;refine Aa fun _ az=>Aa fun _ aA=>Ac 9 fun g8 aj=>?_;simp only[go_sem,a0,c];refine aA (Al (Ae (az (Aa fun _ aB=>Ai (Am fun _ _ _ _ Y b3=>Af 6 Y ?_)))));simp only[go_sem,g2];refine AA Y rfl rfl rfl (FV _ u (i7 _ (dP c)) (by omega) _ _) (CoL.refl _) ?_;refine Ad 1 Y ?_;simp only[go_sem];refine b3 (aB (Ac 3 fun _ _=>?_));simp only[go_sem];try simp (disch:=omega) only[Au]
       rw[E0 c Z] at G;refine ⟨_,?_,j + 1,Bb D.sigs[j] u,c,rfl,by omega,G,Ao ?_⟩
       ·omega
       simp only[go_sem];omega
      ·have a0 : ¬ (u:Int)≤2000:=by omega
       rw[EZ Z] at G;refine Aa fun _ _=>Aa fun _ aC=>Ac 9 fun g8 aj=>?_;simp only[go_sem,a0,c];refine aC (Aj (Aq (aa (Aa fun _ ab=>Aa fun _ aD=>Ac 1 fun ap b7=>?_))));simp only[go_sem];refine aD (Ai ?_);refine Ay (fun m s=>∃ j v,j≤D.vars.length∧m=D.vars.length - j∧v≤15 * big∧cnt cntS D.vars (cnt Bb D.sigs (Bk D b))=cnt cntS (D.vars.drop j) v ∧
         Le { env:=[(1,.ptr ⟨t,1,0⟩ 0),(3,dN v),(4,dN k),(5,.ptr ⟨L,5,0⟩ 0),(7,dN j)],σ:=[(⟨t,1,0⟩,.box 30 (prC p)),(⟨L,5,0⟩,.box 48 (deC D))] } s) D.vars.length ?_ ?_
       ·refine ⟨0,u,dX _,rfl,by omega,by rw[G]; rfl,Ao ?_⟩;simp only[go_sem];trivial
       ·rintro m s ⟨j,v,hj,rfl,bc,h,P⟩;refine Az P ?_;clear P;by_cases c:j < D.vars.length
        ·have K:=getM (f:=encS) c;by_cases I:v≤2000
         ·have J : (v:Int)≤2000:=by omega
          have R:=am _ (dP c);have s2:=Qo _ R v I;refine Aa fun _ aE=>Aa fun _ aG=>Ac 9 fun N O=>?_;simp only[go_sem,J,c];refine aG (Al (Ae (aE (Aa fun _ aH=>Ai (Ac 11 fun ar b9=>?_)))));simp only[go_sem,K];try simp (disch:=omega) only[Au,dZ]
          refine aH (Ac 3 fun aq b8=>?_);simp only[go_sem];try simp (disch:=omega) only[Au]
          rw[E0 c I] at h;refine ⟨_,?_,j + 1,cntS D.vars[j] v,c,rfl,by omega,h,Ao ?_⟩
          ·omega
          simp only[go_sem,cntS];omega
         ·have J : ¬ (v:Int)≤2000:=by omega
          rw[EZ I] at h;refine Aa fun _ _=>Aa fun _ aI=>Ac 9 fun N O=>?_;simp only[go_sem,J,c];refine aI (Aj (Aq (ab (Aa fun _ ac=>?_))));by_cases r:v≤2000
          ·have l : (v:Int)≤2000:=by omega
           have t1:=G6 D.sig x v;have t2:=Ep D.body y (Bb D.sig v);have i:B0 D v=Bc D.body (Bb D.sig v):=by unfold B0; rw[if_pos r]
           refine Ac 2 fun z C=>?_;simp only[go_sem,l];refine ac (Al (AF 7 fun T V a2 S e B=>Av 5 e ?_));simp only[go_sem];refine AI e rfl rfl rfl (FV D.sig v x (by omega) _ _) (CoL.refl _) rfl ?_;refine AI e rfl rfl rfl (E7 _ y _ _ _ (by omega)) (CoL.refl _) rfl ?_;refine Ap 0 e ?_;simp only[go_sem];refine Ad 1 e ?_;simp only[go_sem];refine B (w (Ac 3 fun A F=>?_));simp only[go_sem];try simp (disch:=omega) only[Au]
           refine ⟨_,?_,k + 1,Cy D b,q,rfl,by omega,o,Ao ?_⟩
           ·omega
           rw[show Cy D b=Bc D.body (Bb D.sig v) by rw[← i,← h]; rfl];simp only[go_sem];omega
          ·have l : ¬ (v:Int)≤2000:=by omega
           have i:B0 D v=v:=by unfold B0; rw[if_neg r]
           refine Ac 2 fun z C=>?_;simp only[go_sem,l];refine ac (Aj (Ae (w (Ac 3 fun A F=>?_))));simp only[go_sem];try simp (disch:=omega) only[Au]
           refine ⟨_,?_,k + 1,Cy D b,q,rfl,by omega,o,Ao ?_⟩
           ·omega
           rw[show Cy D b=v by rw[← i,← h]; rfl];simp only[go_sem];omega
        ·rw[DF _ _ (by omega)] at h;simp only[cnt] at h;refine Aa fun _ _=>Aa fun _ aJ=>Ac 9 fun N O=>?_;simp only[go_sem,c];refine aJ (Aj (Aq (ab (Aa fun _ ad=>?_))));by_cases r:v≤2000
         ·have l : (v:Int)≤2000:=by omega
          have t1:=G6 D.sig x v;have t2:=Ep D.body y (Bb D.sig v);have i:B0 D v=Bc D.body (Bb D.sig v):=by unfold B0; rw[if_pos r]
          refine Ac 2 fun z C=>?_;simp only[go_sem,l];refine ad (Al (AF 7 fun T V a2 S e B=>Av 5 e ?_));simp only[go_sem];refine AI e rfl rfl rfl (FV D.sig v x (by omega) _ _) (CoL.refl _) rfl ?_;refine AI e rfl rfl rfl (E7 _ y _ _ _ (by omega)) (CoL.refl _) rfl ?_;refine Ap 0 e ?_;simp only[go_sem];refine Ad 1 e ?_;simp only[go_sem];refine B (w (Ac 3 fun A F=>?_));simp only[go_sem];try simp (disch:=omega) only[Au]
          refine ⟨_,?_,k + 1,Cy D b,q,rfl,by omega,o,Ao ?_⟩
          ·omega
          rw[show Cy D b=Bc D.body (Bb D.sig v) by rw[← i,← h]; rfl];simp only[go_sem];omega
         ·have l : ¬ (v:Int)≤2000:=by omega
          have i:B0 D v=v:=by unfold B0; rw[if_neg r]
          refine Ac 2 fun z C=>?_;simp only[go_sem,l];refine ad (Aj (Ae (w (Ac 3 fun A F=>?_))));simp only[go_sem];try simp (disch:=omega) only[Au]
          refine ⟨_,?_,k + 1,Cy D b,q,rfl,by omega,o,Ao ?_⟩
          ·omega
          rw[show Cy D b=v by rw[← i,← h]; rfl];simp only[go_sem];omega
     ·rw[DF _ _ (by omega)] at G;simp only[cnt] at G;refine Aa fun _ _=>Aa fun _ aK=>Ac 9 fun g8 aj=>?_;simp only[go_sem,c];refine aK (Aj (Aq (aa (Aa fun _ af=>Aa fun _ aL=>Ac 1 fun ap b7=>?_))));simp only[go_sem];refine aL (Ai ?_);refine Ay (fun m s=>∃ j v,j≤D.vars.length∧m=D.vars.length - j∧v≤15 * big∧cnt cntS D.vars (cnt Bb D.sigs (Bk D b))=cnt cntS (D.vars.drop j) v ∧
        Le { env:=[(1,.ptr ⟨t,1,0⟩ 0),(3,dN v),(4,dN k),(5,.ptr ⟨L,5,0⟩ 0),(7,dN j)],σ:=[(⟨t,1,0⟩,.box 30 (prC p)),(⟨L,5,0⟩,.box 48 (deC D))] } s) D.vars.length ?_ ?_
      ·refine ⟨0,u,dX _,rfl,by omega,by rw[G]; rfl,Ao ?_⟩;simp only[go_sem];trivial
      ·rintro m s ⟨j,v,hj,rfl,bc,h,P⟩;refine Az P ?_;clear P;by_cases c:j < D.vars.length
       ·have K:=getM (f:=encS) c;by_cases I:v≤2000
        ·have J : (v:Int)≤2000:=by omega
         have R:=am _ (dP c);have s2:=Qo _ R v I;refine Aa fun _ aM=>Aa fun _ aN=>Ac 9 fun N O=>?_;simp only[go_sem,J,c];refine aN (Al (Ae (aM (Aa fun _ aO=>Ai (Ac 11 fun ar b9=>?_)))));simp only[go_sem,K];try simp (disch:=omega) only[Au,dZ]
         refine aO (Ac 3 fun aq b8=>?_);simp only[go_sem];try simp (disch:=omega) only[Au]
         rw[E0 c I] at h;refine ⟨_,?_,j + 1,cntS D.vars[j] v,c,rfl,by omega,h,Ao ?_⟩
         ·omega
         simp only[go_sem,cntS];omega
        ·have J : ¬ (v:Int)≤2000:=by omega
         rw[EZ I] at h;refine Aa fun _ _=>Aa fun _ aP=>Ac 9 fun N O=>?_;simp only[go_sem,J,c];refine aP (Aj (Aq (af (Aa fun _ ag=>?_))));by_cases r:v≤2000
         ·have l : (v:Int)≤2000:=by omega
          have t1:=G6 D.sig x v;have t2:=Ep D.body y (Bb D.sig v);have i:B0 D v=Bc D.body (Bb D.sig v):=by unfold B0; rw[if_pos r]
          refine Ac 2 fun z C=>?_;simp only[go_sem,l];refine ag (Al (AF 7 fun T V a2 S e B=>Av 5 e ?_));simp only[go_sem];refine AI e rfl rfl rfl (FV D.sig v x (by omega) _ _) (CoL.refl _) rfl ?_;refine AI e rfl rfl rfl (E7 _ y _ _ _ (by omega)) (CoL.refl _) rfl ?_;refine Ap 0 e ?_;simp only[go_sem];refine Ad 1 e ?_;simp only[go_sem];refine B (w (Ac 3 fun A F=>?_));simp only[go_sem];try simp (disch:=omega) only[Au]
          refine ⟨_,?_,k + 1,Cy D b,q,rfl,by omega,o,Ao ?_⟩
          ·omega
          rw[show Cy D b=Bc D.body (Bb D.sig v) by rw[← i,← h]; rfl];simp only[go_sem];omega
         ·have l : ¬ (v:Int)≤2000:=by omega
          have i:B0 D v=v:=by unfold B0; rw[if_neg r]
          refine Ac 2 fun z C=>?_;simp only[go_sem,l];refine ag (Aj (Ae (w (Ac 3 fun A F=>?_))));simp only[go_sem];try simp (disch:=omega) only[Au]
          refine ⟨_,?_,k + 1,Cy D b,q,rfl,by omega,o,Ao ?_⟩
          ·omega
          rw[show Cy D b=v by rw[← i,← h]; rfl];simp only[go_sem];omega
       ·rw[DF _ _ (by omega)] at h;simp only[cnt] at h;refine Aa fun _ _=>Aa fun _ aQ=>Ac 9 fun N O=>?_;simp only[go_sem,c];refine aQ (Aj (Aq (af (Aa fun _ ah=>?_))));by_cases r:v≤2000
        ·have l : (v:Int)≤2000:=by omega
         have t1:=G6 D.sig x v;have t2:=Ep D.body y (Bb D.sig v);have i:B0 D v=Bc D.body (Bb D.sig v):=by unfold B0; rw[if_pos r]
         refine Ac 2 fun z C=>?_;simp only[go_sem,l];refine ah (Al (AF 7 fun T V a2 S e B=>Av 5 e ?_));simp only[go_sem];refine AI e rfl rfl rfl (FV D.sig v x (by omega) _ _) (CoL.refl _) rfl ?_;refine AI e rfl rfl rfl (E7 _ y _ _ _ (by omega)) (CoL.refl _) rfl ?_;refine Ap 0 e ?_;simp only[go_sem];refine Ad 1 e ?_;simp only[go_sem];refine B (w (Ac 3 fun A F=>?_));simp only[go_sem];try simp (disch:=omega) only[Au]
         refine ⟨_,?_,k + 1,Cy D b,q,rfl,by omega,o,Ao ?_⟩
         ·omega
         rw[show Cy D b=Bc D.body (Bb D.sig v) by rw[← i,← h]; rfl];simp only[go_sem];omega
        ·have l : ¬ (v:Int)≤2000:=by omega
         have i:B0 D v=v:=by unfold B0; rw[if_neg r]
         refine Ac 2 fun z C=>?_;simp only[go_sem,l];refine ah (Aj (Ae (w (Ac 3 fun A F=>?_))));simp only[go_sem];try simp (disch:=omega) only[Au]
         refine ⟨_,?_,k + 1,Cy D b,q,rfl,by omega,o,Ao ?_⟩
         ·omega
         rw[show Cy D b=v by rw[← i,← h]; rfl];simp only[go_sem];omega
   ·have W : ¬ (b : Int)≤2000:=by omega
    refine Aa fun _ _=>Aa fun _ aS=>Ac 9 fun K ai=>?_;simp only[go_sem,W,q];refine aS ?_;rw[EZ M] at o;subst o;refine Aj (Aq (ae (Aa fun _ aT=>Ac 2 fun au ba=>?_)));simp only[go_sem];refine aT (Ah (Ag ?_));simp only[go_sem];exact Co.refl _
  ·refine Aa fun _ _=>Aa fun _ aU=>Ac 9 fun K ai=>?_;simp only[go_sem,q];refine aU ?_;rw[DF _ _ (by omega)] at o;simp only[cnt] at o;subst o;refine Aj (Aq (ae (Aa fun _ aV=>Ac 2 fun au ba=>?_)));simp only[go_sem];refine aV (Ah (Ag ?_));simp only[go_sem];exact Co.refl _
theorem NC (p:Prg) (hp:okPr p) (g d:Nat):ACalls E 17 [AZ p] [] g d (dB (decide (EH p≤600))) []:=by
 have h:((EH p:Int)≤600)=(EH p≤600):=by apply propext; omega
 refine Ax 6 Tryz.call17 Tryz.func17 ?_;simp only[go_sem];refine Aa fun _ b=>Ac 2 fun _ _=>?_;simp only[go_sem];refine b (Aa fun _ c=>Am fun _ _ _ _ a e=>Af 1 a ?_);simp only[go_sem];refine Ak a (UH _ hp _ _) ?_;refine Ad 2 a ?_;simp only[go_sem];refine e (c (Ah (Ag ?_)));simp only[go_sem];exact Co.of_eq (by simp only[h])
theorem Ca {α:Type} {f:α→Nat→Nat} (hf:∀ a n,n≤f a n):∀ (l:List α) (n:Nat),n≤cnt f l n
 | [],n=>ec _
 | a :: r,n=>by
  simp only[cnt];split
  ·exact ef (hf a n) (Ca hf r _)
  ·exact ec _
theorem Eq {α:Type} {f:α→Nat→Nat} (hf:∀ a n,n + 1≤f a n):∀ (l:List α) (n:Nat),cnt f l n≤2000→n + l.length≤cnt f l n∧∀ a∈l,∃ m,f a m≤cnt f l n
 | [],n,_=>⟨ec _,fun a h=>by cases h⟩
 | a :: r,n,h=>by
  have hg:∀ m,m≤cnt f r m:=fun m=>Ca (fun a n=>ef (fu n) (hf a n)) r m;have hn:n≤2000:=by
   simp only[cnt] at h;split at h
   ·assumption
   ·exact h
  simp only[cnt] at h ⊢;rw[if_pos hn] at h ⊢;obtain ⟨d,c⟩:=Eq hf r (f a n) h;have:=hf a n;refine ⟨by simp only[eB]; omega,fun x b=>?_⟩;rcases eq.1 b with rfl | b
  ·exact ⟨n,hg _⟩
  ·exact c x b
theorem CV:∀ (t:Ty) (n:Nat),n + 1 + t.name.size / 50≤count t n:=by
 refine Ty.ind fun t ih n=>?_;rw[Fs,Gy];have:∀ (l:List Ty),(∀ x∈l,∀ n,n + 1 + x.name.size / 50≤count x n)→∀ n,n≤cnt count l n:=by
  intro l;induction l with
  | nil=>intro _ n; exact ec _
  | cons a r c =>
   intro h n;simp only[cnt];split
   ·have:=h a dY n;exact ef (by omega) (c (fun x b=>h x (ea _ b)) _)
   ·exact ec _
 exact this _ ih _
theorem IL:∀ (t:Ty) (n:Nat),count t n≤2000→smTy t:=by
 refine Ty.ind fun t ih n h=>?_;have h0:=CV t n;rw[Fs,Gy] at h;obtain ⟨d,c⟩:=Eq (fun a n=>by have:=CV a n; omega) _ _ h;refine (Bi t).2 ⟨?_,by omega,fun x b=>?_⟩
 ·rw[Fs,Gy] at h0; omega
 ·obtain ⟨m,e⟩:=c x b;exact ih x b m (by omega)
theorem Zf (f:Formal) (n:Nat) (h:BG f n≤2000):smFm f:=by
 have:=CV f.bound (n + 1 + f.name.size / 50);unfold BG at h;exact ⟨by omega,IL _ _ h⟩
theorem Zg (f:Param) (n:Nat) (h:Cw f n≤2000):smPa f:=by
 have:=CV f.type (n + 1 + f.name.size / 50);unfold Cw at h;exact ⟨by omega,IL _ _ h⟩
theorem G7 (f:Formal) (n:Nat):n + 1≤BG f n:=by
 have:=CV f.bound (n + 1 + f.name.size / 50);unfold BG; omega
theorem G8 (f:Param) (n:Nat):n + 1≤Cw f n:=by
 have:=CV f.type (n + 1 + f.name.size / 50);unfold Cw; omega
theorem Rb (l:List Formal) (n:Nat) (h:cnt BG l n≤2000):l.length≤2000∧∀ f∈l,smFm f:=by
 obtain ⟨c,a⟩:=Eq G7 l n h;exact ⟨by omega,fun f b=>let ⟨m,hm⟩:=a f b; Zf f m (by omega)⟩
theorem Rc (l:List Param) (n:Nat) (h:cnt Cw l n≤2000):l.length≤2000∧∀ f∈l,smPa f:=by
 obtain ⟨c,a⟩:=Eq G8 l n h;exact ⟨by omega,fun f b=>let ⟨m,hm⟩:=a f b; Zg f m (by omega)⟩
theorem XE (l:List Ty) (n:Nat) (h:cnt count l n≤2000):l.length≤2000∧∀ f∈l,smTy f:=by
 obtain ⟨c,a⟩:=Eq (fun t n=>by have:=CV t n; omega) l n h;exact ⟨by omega,fun f b=>let ⟨m,hm⟩:=a f b; IL f m (by omega)⟩
theorem Gc (s:Sig) (n:Nat):n + 1≤Bb s n:=by
 have b:=Ca (fun a n=>ef (fu n) (G7 a n)) s.formals (n + s.name.size / 50);have c:=Ca (fun a n=>ef (fu n) (G8 a n)) s.params (cnt BG s.formals (n + s.name.size / 50));have d:=CV s.result (cnt Cw s.params (cnt BG s.formals (n + s.name.size / 50)));unfold Bb;omega
theorem Tb (s:Sig) (n:Nat) (h:Bb s n≤2000):smSi s∧s.formals.length≤2000∧s.params.length≤2000:=by
 have d:=Ca (fun a n=>ef (fu n) (G7 a n)) s.formals (n + s.name.size / 50);have e:=Ca (fun a n=>ef (fu n) (G8 a n)) s.params (cnt BG s.formals (n + s.name.size / 50));have f:=CV s.result (cnt Cw s.params (cnt BG s.formals (n + s.name.size / 50)));unfold Bb at h;have b:=Rb s.formals (n + s.name.size / 50) (by omega);have c:=Rc s.params _ (show cnt Cw s.params (cnt BG s.formals (n + s.name.size / 50))≤2000 by omega);exact ⟨⟨by omega,⟨by omega,b.2⟩,⟨by omega,c.2⟩,IL _ _ h⟩,b.1,c.1⟩
def Cb:Ex:=.mk 0 ByteArray.empty BV [] [] 0
def abx (s:Sig):Dec:=⟨0,ByteArray.empty,[],[],[],ByteArray.empty,[],s,Cb,0⟩
def aby (l:List Formal):Dec:=⟨0,ByteArray.empty,l,[],[],ByteArray.empty,[],Bw,Cb,0⟩
def few10 (s:Sig):Bool:=decide (EH ⟨[abx s],Cb⟩≤600)
def acU (l:List Formal):Bool:=decide (EH ⟨[aby l],Cb⟩≤600)
theorem E1:∀ (e:Ex) (n:Nat),n + 1≤Bc e n:=by
 refine Ex.ind fun e ih n=>?_;rw[FF];have d:=CV e.type (n + e.name.size / 50);have g:=Ca (f:=count) (fun t m=>by have:=CV t m; omega) e.targs (count e.type (n + e.name.size / 50));have:∀ (l:List Ex),(∀ x∈l,∀ n,n + 1≤Bc x n)→∀ n,n≤cnt Bc l n:=by
  intro l;induction l with
  | nil=>intro _ n; exact ec _
  | cons a r c =>
   intro h n;simp only[cnt];split
   ·have:=h a dY n;exact ef (by omega) (c (fun x b=>h x (ea _ b)) _)
   ·exact ec _
 have i:=this e.kids ih (cnt count e.targs (count e.type (n + e.name.size / 50)));omega
mutual
def strip:Ty→Ty
 | .mk n x _=>.mk n (strips x) 0
def strips:List Ty→List Ty
 | []=>[]
 | t :: r=>strip t :: strips r
end
mutual
theorem Re:∀ (t u:Ty),BK t u=0↔strip t=strip u
 | .mk a x p,.mk b y q=>by
  simp only[BK,strip,Ty.mk.injEq,and_true];rw[← Pq x y,← CE];split
  ·rename_i h; simp[h]
  ·rename_i h; simp[h]
theorem Pq:∀ (x y:List Ty),Em x y=0↔strips x=strips y
 | [],[]=>by simp[Em]
 | [],_ :: _=>by simp[Em,strips]
 | _ :: _,[]=>by simp[Em,strips]
 | t :: x,u :: y=>by
  simp only[Em,strips,List.cons.injEq];rw[← Pq x y,← Re t u];split
  ·rename_i h; simp[h]
  ·rename_i h; simp[h]
end
def ab1 (a:Formal):Str × Ty:=(a.name,strip a.bound)
def ab2 (a:Param):Str × Ty:=(a.name,strip a.type)
def ab3 (s:Sig):Str × List (Str × Ty) × List (Str × Ty) × Ty:=(s.name,s.formals.map ab1,s.params.map ab2,strip s.result)
def key (s:Sig):=ab3 (BH s)

mutual
def smEx:Ex→Prop
 | .mk _ n t a c _=>n.size≤1000000∧smTy t∧(a.length≤1000000∧∀ x∈a,smTy x)∧c.length≤1000000∧Pr c
def Pr:List Ex→Prop
 | []=>True
 | t :: r=>smEx t∧Pr r
end
theorem Rf:∀ l,Pr l↔∀ t∈l,smEx t
 | []=>by simp[Pr]
 | t :: r=>by simp[Pr,Rf r]
theorem Bd (e:Ex):smEx e↔e.name.size≤1000000∧smTy e.type∧(e.targs.length≤1000000∧∀ x∈e.targs,smTy x)∧e.kids.length≤1000000∧∀ x∈e.kids,smEx x:=by
 cases e;simp[smEx,Rf]
def smDe (d:Dec):Prop:=d.name.size≤1000000∧(d.formals.length≤2000∧∀ f∈d.formals,smFm f)∧(d.fields.length≤1000000∧∀ f∈d.fields,smPa f)∧(d.sigs.length≤1000000∧∀ f∈d.sigs,smSi f)∧d.recv.size≤1000000 ∧
 (d.vars.length≤1000000∧∀ f∈d.vars,f.size≤1000000)∧smSi d.sig∧smEx d.body
def smPr (p:Prg):Prop:=(p.decls.length≤2000∧∀ f∈p.decls,smDe f)∧smEx p.main
mutual
def AB:Ex→List Ex
 | .mk k n t a c p=>.mk k n t a c p :: Be c
def Be:List Ex→List Ex
 | []=>[]
 | t :: r=>AB t++Be r
end
theorem BC (e:Ex):AB e=e :: Be e.kids:=by cases e; rfl
theorem Gz:∀ a b:List Ex,Be (a++b)=Be a++Be b
 | [],b=>rfl
 | x :: a,b=>by simp[Be,Gz a b]
theorem DL (c:List Ex) (i:Nat) (h:i < c.length):Be (c.take (i + 1))=Be (c.take i)++AB c[i]:=by
 rw[ep,dO h,Gz];simp[Be]
theorem Tc (c:List Ex) (i:Nat) (h:i < c.length) (j:Nat) (x:Ex) (hx:(AB c[i])[j]?=some x):(Be c)[(Be (c.take i)).length + j]?=some x:=by
 have a:=(dW.1 hx).1;have e:Be c=(Be (c.take i)++AB c[i])++Be (c.drop (i + 1)):=by rw[← DL c i h,← Gz,fC]
 rw[e,eF (by simp; omega),eJ (by omega)];simpa using hx
theorem XF (n:Nm):(D.yld n).cells=[.yld n]:=rfl
theorem aaC (n:Nm):(D.yld n).one=true:=rfl
attribute [go_sem] XF aaC
abbrev Wn (q:Nat):D:=.func (.func 162) [] [.ptr ⟨q,3,0⟩ 0]
def bx (n:Nm) (q:Nat) (P:Sto→Prop) (τ:Sto):Prop:=∃ τ0,τ=(⟨q,3,0⟩,.box 66 [.yld n]) :: τ0∧P τ0∧get τ0 ⟨q,3,0⟩=none
set_option maxRecDepth 100000 in
theorem Td (c:List Ex) (hc:c.length≤9223372036854775807) (q:Nat) (I:Nat→Sto→Prop) (h:∀ i (hi:i < c.length),IC E 162 [AK c[i],.ptr ⟨q,3,0⟩ 0] (I i) (I (i + 1)) (dB false)) :
  IC E 173 [slEx c,Wn q] (I 0) (I c.length) (dI (-1)):=by
 refine Ef (fn:=Tryz.f173) (N:=19) Tryz.call173 Tryz.func173 rfl rfl (by simp) (fun _ _ τ B=>?_);simp only[go_sem];refine Aa fun _ l=>Ac 1 fun _ _=>?_;simp only[go_sem];refine l (Aa fun _ o=>Aa fun _ p=>Ac 3 fun _ _=>?_);simp only[go_sem];refine p (Ai ?_);refine Ay (fun m s=>∃ k b,k≤c.length∧m=c.length - k∧I k b∧LeT { env:=[(0,slEx c),(1,Wn q),(7,dN c.length),(8,dN k)],σ:=b } s) c.length ?_ ?_
 ·refine ⟨0,τ,dX _,rfl,B,SZ rfl ?_⟩;simp only[go_sem];trivial
 ·rintro m s ⟨k,b,D,rfl,e,f⟩;refine Da f ?_;clear f;by_cases a:k < c.length
  ·refine Aa fun _ r=>Ac 1 fun g z=>?_;simp only[go_sem,a];refine r (Aa fun _ t=>Al (Ae (t (Aa fun _ u=>Ai (Aa fun _ v=>Ac 2 fun _ _=>?_)))));simp only[go_sem];refine v (Aa fun _ w=>Am fun _ _ _ _ d y=>Af 5 d ?_);simp only[go_sem,getM a];refine EX (own:=[]) (τ:=b) d rfl rfl rfl (h k a) (CoL.refl _) rfl (fun _ A=>nomatch A) e (fun C j _=>?_);refine Ad 0 d ?_;simp only[go_sem];refine y (w (Aj (Ae (u (Ac 2 fun _ _=>?_)))));simp only[go_sem];try simp (disch:=omega) only[Au]
   refine ⟨_,?_,k + 1,C,a,rfl,j,SZ rfl ?_⟩
   ·omega
   simp only[go_sem];omega
  ·have:k=c.length:=by omega
   subst this;refine Aa fun _ x=>Ac 1 fun g z=>?_;simp only[go_sem,a];refine x (Aa fun _ _=>Aj (Aq (o (Aa fun _ n=>Ac 1 fun _ _=>?_))));simp only[go_sem];refine n (Ah ?_);refine Gj (own:=[]) rfl rfl (by simp[go_sem]) (e) ?_;simp only[go_sem];exact Co.refl _
theorem Ps (c:List Ex) (hc:c.length≤9223372036854775807) (q:Nat) (I:Nat→Sto→Prop) (h:∀ i (hi:i < c.length),IC E 162 [AK c[i],.ptr ⟨q,3,0⟩ 0] (I i) (I (i + 1)) (dB false)) :
  IC E 163 [slEx c,Wn q] (I 0) (I c.length) (dB false):=by
 refine Ef (fn:=Tryz.f163) (N:=9) Tryz.call163 Tryz.func163 rfl rfl (by simp) (fun _ _ τ j=>?_);simp only[go_sem];refine Aa fun _ d=>Ac 1 fun _ _=>?_;simp only[go_sem];refine d (Aa fun _ e=>Am fun _ _ _ _ a f=>Af 2 a ?_);simp only[go_sem];refine EX (own:=[]) (τ:=τ) a rfl rfl rfl (Td c hc q I h) (CoL.refl _) rfl (fun _ g=>nomatch g) j (fun _ b _=>?_);refine Ad 2 a ?_;simp only[go_sem];refine f (e (Ah ?_));refine Gj (own:=[]) rfl rfl (by simp[go_sem]) (b) ?_;simp only[go_sem];exact Co.of_eq rfl
theorem Wo (e:Ex) (n:Nm) (q:Nat) (Pre Post:Sto→Prop) (h:IC E 143 [AK e,.yld n] Pre Post (dB true)) :
  IC E 162 [AK e,.ptr ⟨q,3,0⟩ 0] (bx n q Pre) (bx n q Post) (dB false):=by
 refine Ef (fn:=Tryz.f162) (N:=8) Tryz.call162 Tryz.func162 rfl rfl (by simp) (fun _ _ τ u=>?_);simp only[go_sem];refine Aa fun _ j=>?_;obtain ⟨d,rfl,m,t⟩:=u;refine Ac 2 fun f s=>?_;simp only[go_sem];refine j (Aa fun _ k=>Am fun _ _ _ _ b l=>Af 2 b ?_);simp only[go_sem];have r:get d ⟨f,2,0⟩=none:=by simpa [go_sem] using s 2 0
 refine EX (own:=[_,_]) (τ:=d) b rfl rfl rfl h (CoL.refl _) rfl (fun p a=>?_) m (fun v o c=>?_)
 ·rcases eq.1 a with rfl | a
  ·exact r
  ·rw[eg.1 a]; exact t
 refine Ad 2 b ?_;simp only[go_sem];refine l (k (Ah ?_));have g:=c _ dY;have i:=c _ (ea _ dY);refine Gj (own:=[_]) rfl rfl (fun p a=>?_) ⟨v,rfl,o,i⟩ ?_
 ·rw[eg.1 a];simpa [go_sem] using g
 simp only[go_sem];exact Co.of_eq rfl
def offK (c:List Ex) (i:Nat):Nat:=1 + (Be (c.take i)).length
set_option maxRecDepth 100000 in
theorem UI (n:Nm):∀ (e:Ex),okEx e→∀ I:Nat→Sto→Prop,(∀ j x,(AB e)[j]?=some x→YC E n (AK x) (I j) (I (j + 1)))→IC E 143 [AK e,.yld n] (I 0) (I (AB e).length) (dB true):=by
 intro e;induction e using Ex.ind with
 | h e ih =>
 intro S I u;obtain ⟨Y,Z,o3,V,W⟩:=(EW e).1 S;have l:=BC e;refine Ef (fn:=Tryz.f143) (N:=16) Tryz.call143 Tryz.func143 rfl rfl (by simp) (fun _ _ τ U=>?_);simp only[go_sem];refine Aa fun _ F=>Ac 3 fun c v=>?_;simp only[go_sem];refine F (Aa fun _ G=>Aa fun _ H=>?_);have O:get τ ⟨c,2,0⟩=none:=by simpa [go_sem] using v 2 0
 have P:get τ ⟨c,3,0⟩=none:=by simpa [go_sem] using v 3 0
 refine Am fun _ _ _ _ q L=>Af 2 q ?_;simp only[go_sem];refine Wi (own:=[_,_]) (τ:=τ) q rfl rfl rfl rfl rfl rfl (u 0 e (by rw[l]; rfl)) (Co.refl _) rfl (fun p d=>?_) U (fun s C g=>?_)
 ·rcases eq.1 d with rfl | d
  ·exact P
  ·rw[eg.1 d]; exact O
 refine Ad 1 q ?_;simp only[go_sem];refine L (H (Aj (Ae (G (Aa fun _ J=>?_)))));have z:=g _ dY;have y:=g _ (ea _ dY);clear g;refine Da (st':={ env:=[(2,.ptr ⟨c,2,0⟩ 0),(3,.ptr ⟨c,3,0⟩ 0)],σ:=(⟨c,2,0⟩,.box 28 (exC e)) :: (⟨c,3,0⟩,.box 66 [.yld n]) :: s }) ⟨CD ?_,?_⟩ ?_
 ·simp only[go_sem];try trivial
 ·intro m o f;simp only[Ab.get] at f ⊢;by_cases a:(⟨c,2,0⟩:Nm)=m
  ·have b:¬ (⟨c,3,0⟩:Nm)=m:=by rw[← a]; simp
   rw[if_pos a] at f;rw[if_neg b,if_pos a];exact f
  ·rw[if_neg a] at f;by_cases b:(⟨c,3,0⟩:Nm)=m
   ·rw[if_pos b] at f ⊢;exact f
   ·rw[if_neg b] at f;rw[if_neg b,if_neg a];exact f
 refine Ac 2 fun _ _=>?_;simp only[go_sem];refine J (Aa fun _ K=>Am fun _ _ _ _ r M=>Af 3 r ?_);simp only[go_sem];refine EX (own:=[_]) (τ:=(⟨c,3,0⟩,.box 66 [.yld n]) :: s) r rfl rfl rfl (Ps e.kids V c (fun i=>bx n c (I (offK e.kids i))) (fun i k=>?_)) (CoL.refl _) rfl (fun p d=>?_) ⟨s,rfl,C,z⟩ (fun _ D g=>?_)
 ·refine Wo _ n c _ _ ?_;have R:offK e.kids (i + 1)=offK e.kids i + (AB e.kids[i]).length:=by
   unfold offK;rw[DL e.kids i k,dQ];omega
  rw[R];refine ih _ (dP k) (W _ (dP k)) (fun j=>I (offK e.kids i + j)) (fun j x T=>?_);have:=u (offK e.kids i + j) x (by
   rw[l];have:=Tc e.kids i k j x T;have w:offK e.kids i + j=((Be (e.kids.take i)).length + j) + 1:=by unfold offK; omega
   rw[w,fK];exact this)
  exact this
 ·rw[eg.1 d];simpa [go_sem] using y
 refine Ad 2 r ?_;simp only[go_sem];refine M (K (Ah ?_));obtain ⟨X,rfl,t,A⟩:=D;have B:=g _ dY;have Q:offK e.kids e.kids.length=(AB e).length:=by
  unfold offK;rw[eo,l];simp;omega
 rw[Q] at t;refine Gj (own:=[_,_]) (τ:=X) rfl rfl (fun p d=>?_) t ?_
 ·rcases eq.1 d with rfl | d
  ·simpa [go_sem] using B
  ·rw[eg.1 d]; exact A
 simp only[go_sem];exact Co.of_eq rfl
theorem H0 (e:Ex) (h:okEx e) (n:Nm) (I:Nat→Sto→Prop) (hY:∀ k (hk:k < ((AB e).map AK).length),YC E n ((AB e).map AK)[k] (I k) (I (k + 1))) :
  IC E 142 [.yld n,.eptr (exC e)] (I 0) (I ((AB e).map AK).length) (.tup []):=by
 have g : ∀ j x,(AB e)[j]?=some x→YC E n (AK x) (I j) (I (j + 1)):=fun j x b=>by
  have i:=(dW.1 b).1;have:=hY j (by simpa using i);have c:(AB e)[j]=x:=(dW.1 b).2;simpa [c] using this
 refine Ef (fn:=Tryz.f142) (N:=6) Tryz.call142 Tryz.func142 rfl rfl (by simp) (fun _ _ τ m=>?_);simp only[go_sem];refine Am fun _ _ _ _ a f=>Af 2 a ?_;simp only[go_sem];refine EX (own:=[]) (τ:=τ) a rfl rfl rfl (UI n e h I g) (CoL.refl _) rfl (fun _ l=>nomatch l) m (fun _ d _=>?_);refine Ad 0 a ?_;simp only[go_sem];refine f ?_;refine Gj (own:=[]) rfl rfl (by simp[go_sem]) (d) ?_;simp only[go_sem];exact Co.refl _
theorem Ia (e:Ex) (g d:Nat):ACalls E 110 [AK e] [] g d (.func (.func 142) [] [.eptr (exC e)]) []:=by
 refine Ax 4 Tryz.call110 Tryz.func110 ?_;simp only[go_sem];refine Aa fun _ b=>Ac 2 fun a _=>?_;simp only[go_sem];refine b (Aa fun _ c=>?_);refine Xs ⟨a,1,0⟩ ?_;simp only[go_sem];refine Ac 2 fun _ _=>?_;simp only[go_sem];refine c (Ah (Ag ?_));simp only[go_sem];exact Co.refl _
theorem smFm.ok {f:Formal} (h:smFm f):okFm f:=⟨by have:=h.1; omega,smTy.ok _ h.2⟩
theorem smPa.ok {f:Param} (h:smPa f):okPa f:=⟨by have:=h.1; omega,smTy.ok _ h.2⟩
theorem smEx.ok:∀ e:Ex,smEx e→okEx e:=by
 refine Ex.ind fun e ih h=>?_;obtain ⟨f,b,⟨g,c⟩,i,d⟩:=(Bd e).1 h;exact (EW e).2 ⟨by omega,smTy.ok _ b,⟨by omega,fun x a=>smTy.ok _ (c x a)⟩,by omega,fun x a=>ih x a (d x a)⟩
theorem smDe.ok {d:Dec} (h:smDe d):okDe d:=by
 obtain ⟨k,⟨l,g⟩,⟨m,i⟩,⟨n,j⟩,o,⟨p,b⟩,c,e⟩:=h;exact ⟨by omega,⟨by omega,fun f a=>(g f a).ok⟩,⟨by omega,fun f a=>(i f a).ok⟩,⟨by omega,fun f a=>(j f a).ok⟩,by omega,⟨by omega,fun f a=>by have:=b f a; omega⟩,c.ok,smEx.ok _ e⟩
theorem smPr.ok {p:Prg} (h:smPr p):okPr p:=⟨⟨by have:=h.1.1; omega,fun f hf=>(h.1.2 f hf).ok⟩,smEx.ok _ h.2⟩

theorem Te:∀ (e:Ex) (n:Nat),Bc e n≤2000→smEx e:=by
 refine Ex.ind fun e ih n h=>?_;have g:=CV e.type (n + e.name.size / 50);have i:=Ca (f:=count) (fun t m=>by have:=CV t m; omega) e.targs (count e.type (n + e.name.size / 50));rw[FF] at h;obtain ⟨k,b⟩:=Eq E1 e.kids _ h;obtain ⟨l,c⟩:=XE e.targs (count e.type (n + e.name.size / 50)) (by omega);have d:=IL e.type (n + e.name.size / 50) (by omega);refine (Bd e).2 ⟨by omega,d,⟨by omega,c⟩,by omega,fun x a=>?_⟩;obtain ⟨m,j⟩:=b x a;exact ih x a m (by omega)
theorem MZ (v:Str) (n:Nat):n + 1≤cntS v n:=by unfold cntS; omega
theorem Zh (d:Dec) (n:Nat) (h:Cy d n≤2000):smDe d:=by
 have r:=Ca (fun a n=>ef (fu n) (G7 a n)) d.formals (n + 1 + d.name.size / 50 + d.recv.size / 50);have t:=Ca (fun a n=>ef (fu n) (G8 a n)) d.fields (cnt BG d.formals (n + 1 + d.name.size / 50 + d.recv.size / 50));have u:=Ca (fun a n=>ef (fu n) (Gc a n)) d.sigs (Bk d n);have w:=Ca (fun a n=>ef (fu n) (MZ a n)) d.vars (cnt Bb d.sigs (Bk d n));have x:=Gc d.sig (cnt cntS d.vars (cnt Bb d.sigs (Bk d n)));have y:=E1 d.body (Bb d.sig (cnt cntS d.vars (cnt Bb d.sigs (Bk d n))))
 have e0:Bk d n=cnt Cw d.fields (cnt BG d.formals (n + 1 + d.name.size / 50 + d.recv.size / 50)):=rfl;unfold Cy B0 at h;split at h
 ·have b:=Rb d.formals (n + 1 + d.name.size / 50 + d.recv.size / 50) (by omega);have c:=Rc d.fields (cnt BG d.formals (n + 1 + d.name.size / 50 + d.recv.size / 50)) (by omega);obtain ⟨o,e⟩:=Eq Gc d.sigs (Bk d n) (by omega);obtain ⟨p,f⟩:=Eq MZ d.vars (cnt Bb d.sigs (Bk d n)) (by omega);have g:=Tb d.sig (cnt cntS d.vars (cnt Bb d.sigs (Bk d n))) (by omega);have i:=Te d.body (Bb d.sig (cnt cntS d.vars (cnt Bb d.sigs (Bk d n)))) (by omega);refine ⟨by omega,⟨by omega,b.2⟩,⟨by omega,c.2⟩,⟨by omega,fun s k=>?_⟩,by omega,⟨by omega,fun v l=>?_⟩,g.1,i⟩
  ·obtain ⟨m,j⟩:=e s k;exact (Tb s m (by omega)).1
  ·obtain ⟨m,j⟩:=f v l;have q:cntS v m=m + 1 + v.size / 50:=rfl;omega
 ·omega
theorem Ok (d:Dec) (n:Nat):n + 1≤Cy d n:=by
 have b:=Ca (fun a n=>ef (fu n) (G7 a n)) d.formals (n + 1 + d.name.size / 50 + d.recv.size / 50);have c:=Ca (fun a n=>ef (fu n) (G8 a n)) d.fields (cnt BG d.formals (n + 1 + d.name.size / 50 + d.recv.size / 50));have e:=Ca (fun a n=>ef (fu n) (Gc a n)) d.sigs (Bk d n);have f:=Ca (fun a n=>ef (fu n) (MZ a n)) d.vars (cnt Bb d.sigs (Bk d n));have g:=Gc d.sig (cnt cntS d.vars (cnt Bb d.sigs (Bk d n)));have h:=E1 d.body (Bb d.sig (cnt cntS d.vars (cnt Bb d.sigs (Bk d n))))
 have e0:Bk d n=cnt Cw d.fields (cnt BG d.formals (n + 1 + d.name.size / 50 + d.recv.size / 50)):=rfl;unfold Cy B0;split <;> omega
theorem Ol (p:Prg) (h:EH p≤600):smPr p∧p.decls.length≤600:=by
 unfold EH at h;have f:=E1 p.main 0;have g:=Ca (fun a n=>ef (fu n) (Ok a n)) p.decls (Bc p.main 0);obtain ⟨e,b⟩:=Eq Ok p.decls (Bc p.main 0) (by omega);refine ⟨⟨⟨by omega,fun d c=>?_⟩,Te p.main 0 (by omega)⟩,by omega⟩;obtain ⟨m,i⟩:=b d c;exact Zh d m (by omega)
def encK (k:Str × Str):Value:=.agg #[.string k.1,.string k.2]
def tabE (l:List ((Str × Str) × Nat)):List (Value × D):=l.map fun x=>(encK x.1,dN x.2)
def lkp (l:List ((Str × Str) × Nat)) (k:Str × Str):Option Nat:=(l.find? fun x=>decide (x.1=k)).map (·.2)
def dKey (d:Dec):Option (Str × Str):=if d.kind=1∨d.kind=2 then some (d.name,ByteArray.empty) else if d.kind=3 then some (d.name,⟨#[46]⟩++d.sig.name) else none
def Pt (ds:List Dec):Nat→List ((Str × Str) × Nat)
 | 0=>[]
 | n + 1=>match ds[n]?.bind dKey with
  | some k=>if (lkp (Pt ds n) k).isSome then Pt ds n else Pt ds n++[(k,n)]
  | none=>Pt ds n
def tfind (ds:List Dec) (k:Str × Str):Option Nat:=ds.findIdx? fun d=>decide (dKey d=some k)
def ksK:KS:=.agg [.str,.str]
def tbC (p:Prg) (l:List ((Str × Str) × Nat)):List D:=prC p++[.fmap ksK (tabE l)]
def ac0 (p:Prg):D:=.eptr (tbC p (Pt p.decls p.decls.length))
def zDe:List D:=[dI 0,.val (.string ByteArray.empty),.val (.slice none 0 0),.val (.slice none 0 0),.val (.slice none 0 0),.val (.string ByteArray.empty),.val (.slice none 0 0)]++zSi++[dI 0,.val (.string ByteArray.empty),.val (.string ByteArray.empty),.val (.slice none 0 0),dI 0,.val (.slice none 0 0),.val (.slice none 0 0),dI 0]++[dI 0]
def BM:Dec:=⟨0,ByteArray.empty,[],[],[],ByteArray.empty,[],Bw,Cb,0⟩
def ac1 (p:Prg) (k:Str × Str):Option Dec:=(tfind p.decls k).bind fun i=>p.decls[i]?
end Go.Proofs.T
