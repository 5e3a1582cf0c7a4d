/- A part of the proof: ZAN. -/
import Derived.Test.YtnkpcgpmgkaakaaGreatZAM
namespace Go.Proofs.T
open Go Go.Ab Go.RowKit
theorem Gk {α:Type} {f:α→Nat→Nat} {w:α→Nat} (hf:∀ a n,n≤f a n):∀ (l:List α) (n:Nat),(∀ a∈l,∀ n,f a n≤2000→n + w a≤f a n)→cnt f l n≤2000→n + (l.map w).sum≤cnt f l n
 | [],n,_,_=>by simp[cnt]
 | a :: r,n,h,hc=>by
  have hn:n≤2000:=by
   simp only[cnt] at hc;split at hc
   ·assumption
   ·exact hc
  simp only[cnt] at hc ⊢;rw[if_pos hn] at hc ⊢;have c:=Ca hf r (f a n);have d:=h a dY n (by omega);have e:=Gk hf r (f a n) (fun x b=>h x (ea _ b)) hc;simp only[eM,fV];omega
def wN (l:List Ty):Nat:=(BS l).length
theorem XP:wN []=0:=rfl
theorem Fc (t:Ty) (l:List Ty):wN (t :: l)=(AO t).length + wN l:=by simp[wN,BS]
theorem AW (a b:List Ty):wN (a++b)=wN a + wN b:=by simp[wN,GG]
theorem Ej {α:Type} (f:α→List Ty):∀ l:List α,wN (l.flatMap f)=(l.map (fun a=>wN (f a))).sum
 | []=>rfl
 | a :: r=>by rw[eO,AW,Ej f r]; rfl
theorem PC {α:Type} (f:α→Ty):∀ l:List α,wN (l.map f)=(l.map (fun a=>(AO (f a)).length)).sum
 | []=>rfl
 | a :: r=>by rw[eM,Fc,PC f r]; rfl
theorem FX:∀ l:List Ty,l.length≤wN l
 | []=>ec _
 | t :: l=>by
  have h1:=NK t;have h2:=FX l;rw[Fc,eB];omega
theorem DA {t:Ty}:∀ {l:List Ty},t∈l→(AO t).length≤wN l
 | [],h=>by cases h
 | x :: l,h=>by
  rw[Fc];rcases eq.1 h with rfl | h
  ·omega
  ·have:=DA h; omega
theorem Vv (l:List Ty):(l.map (fun t=>(AO t).length)).sum=wN l:=by
 have:=PC (fun t:Ty=>t) l;rw[List.map_id'] at this;exact this.symm
def CA (e:Ex):List Ty:=(AB e).flatMap (fun x=>x.type :: x.targs)
def AP (s:Sig):List Ty:=s.formals.map (·.bound)++s.params.map (·.type)++[s.result]
def Bl (d:Dec):List Ty:=d.formals.map (·.bound)++d.fields.map (·.type)++d.sigs.flatMap AP++AP d.sig++CA d.body
def Bx (p:Prg):List Ty:=p.decls.flatMap Bl++CA p.main
theorem BF:∀ l:List Ex,Be l=l.flatMap AB
 | []=>rfl
 | e :: l=>by rw[Be,BF l]; rfl
theorem KV (e:Ex):CA e=(e.type :: e.targs)++e.kids.flatMap CA:=by
 unfold CA;rw[BC,eO,BF,List.flatMap_assoc]
theorem Ml (t:Ty) (n:Nat):n≤count t n:=by have:=CV t n; omega
theorem Im:∀ (t:Ty) (n:Nat),count t n≤2000→n + (AO t).length≤count t n:=by
 refine Ty.ind fun t ih n h=>?_;rw[Fs,Gy] at h ⊢;have:=Gk (w:=fun t=>(AO t).length) Ml t.args _ (fun a b n c=>ih a b n c) h;rw[Vv] at this;rw[DW];simp only[eB];unfold wN at this;omega
theorem Zw (l:List Ty) (n:Nat) (h:cnt count l n≤2000):n + wN l≤cnt count l n:=by
 have:=Gk (w:=fun t=>(AO t).length) Ml l n (fun a _ n b=>Im a n b) h;rwa [Vv] at this
theorem NM (e:Ex) (n:Nat):n≤Bc e n:=by have:=E1 e n; omega
theorem Rm:∀ (e:Ex) (n:Nat),Bc e n≤2000→n + wN (CA e)≤Bc e n:=by
 refine Ex.ind fun e ih n h=>?_;rw[FF] at h ⊢;have g:=Ca NM e.kids (cnt count e.targs (count e.type (n + e.name.size / 50)));have d:=Ca Ml e.targs (count e.type (n + e.name.size / 50));have j:=Gk (w:=fun x=>wN (CA x)) NM e.kids _ (fun a b n c=>ih a b n c) h;have i:=Zw e.targs (count e.type (n + e.name.size / 50)) (by omega);have f:=Im e.type (n + e.name.size / 50) (by omega);rw[KV,AW,Fc,Ej];omega
theorem Mm (f:Formal) (n:Nat):n≤BG f n:=ef (fu n) (G7 f n)
theorem Mn (f:Param) (n:Nat):n≤Cw f n:=ef (fu n) (G8 f n)
theorem Rn (f:Sig) (n:Nat):n≤Bb f n:=ef (fu n) (Gc f n)
theorem Zx (f:Str) (n:Nat):n≤cntS f n:=ef (fu n) (MZ f n)
theorem Ro (f:Dec) (n:Nat):n≤Cy f n:=ef (fu n) (Ok f n)
theorem To (l:List Formal) (n:Nat) (h:cnt BG l n≤2000):n + wN (l.map (·.bound))≤cnt BG l n:=by
 rw[PC];exact Gk Mm l n (fun a _ n b=>by
  have:=Im a.bound (n + 1 + a.name.size / 50) b;unfold BG; omega) h
theorem Tp (l:List Param) (n:Nat) (h:cnt Cw l n≤2000):n + wN (l.map (·.type))≤cnt Cw l n:=by
 rw[PC];exact Gk Mn l n (fun a _ n b=>by
  have:=Im a.type (n + 1 + a.name.size / 50) b;unfold Cw; omega) h
theorem Vw (s:Sig) (n:Nat) (h:Bb s n≤2000):n + wN (AP s)≤Bb s n:=by
 have d:=Ca Mm s.formals (n + s.name.size / 50);have e:=Ca Mn s.params (cnt BG s.formals (n + s.name.size / 50));have f:=CV s.result (cnt Cw s.params (cnt BG s.formals (n + s.name.size / 50)));have e0:Bb s n=count s.result (cnt Cw s.params (cnt BG s.formals (n + s.name.size / 50))):=rfl;rw[e0] at h ⊢;have a:=To s.formals (n + s.name.size / 50) (by omega);have b:=Tp s.params (cnt BG s.formals (n + s.name.size / 50)) (by omega);have c:=Im s.result _ h;unfold AP;rw[AW,AW,Fc,XP];omega
theorem aaP (d:Dec) (n:Nat) (h:Cy d n≤2000):n + wN (Bl d)≤Cy d n:=by
 have k:=Ca Mm d.formals (n + 1 + d.name.size / 50 + d.recv.size / 50);have l:=Ca Mn d.fields (cnt BG d.formals (n + 1 + d.name.size / 50 + d.recv.size / 50));have m:=Ca Rn d.sigs (Bk d n);have o:=Ca Zx d.vars (cnt Bb d.sigs (Bk d n));have p:=Gc d.sig (cnt cntS d.vars (cnt Bb d.sigs (Bk d n)));have q:=E1 d.body (Bb d.sig (cnt cntS d.vars (cnt Bb d.sigs (Bk d n))));have e0:Bk d n=cnt Cw d.fields (cnt BG d.formals (n + 1 + d.name.size / 50 + d.recv.size / 50)):=rfl;unfold Cy B0 at h ⊢;split at h
 ·rename_i b;rw[if_pos b];have e:=To d.formals (n + 1 + d.name.size / 50 + d.recv.size / 50) (by omega);have f:=Tp d.fields (cnt BG d.formals (n + 1 + d.name.size / 50 + d.recv.size / 50)) (by omega);have g:=Gk (w:=fun s=>wN (AP s)) Rn d.sigs (Bk d n) (fun a _ n c=>Vw a n c) (by omega);have i:=Vw d.sig (cnt cntS d.vars (cnt Bb d.sigs (Bk d n))) (by omega);have j:=Rm d.body (Bb d.sig (cnt cntS d.vars (cnt Bb d.sigs (Bk d n)))) (by omega);unfold Bl;rw[AW,AW,AW,AW,Ej];omega
 ·omega
theorem Qs (p:Prg) (h:EH p≤600):wN (Bx p)≤600:=by
 unfold EH at h;have f:=E1 p.main 0;have g:=Ca Ro p.decls (Bc p.main 0);have c:=Gk (w:=fun d=>wN (Bl d)) Ro p.decls (Bc p.main 0) (fun a _ n b=>aaP a n b) (by omega);have e:=Rm p.main 0 (by omega);unfold Bx;rw[AW,Ej];omega
noncomputable def typed (e:Ex):Bool:=decide (e.kind=3) || decide (e.kind=5)
noncomputable def Dj (e:Ex):Bool :=
 if e.kind=1 then decide ((e.kids.length:Int)=0) else if e.kind=2 then decide ((e.kids.length:Int) ≥ 1) else if e.kind=3 then true else if e.kind=4∨e.kind=5 then decide ((e.kids.length:Int)=1) else false
noncomputable def EI (e:Ex):Bool :=
 if typed e then CJ e.type && decide (e.name=(⟨#[]⟩:ByteArray)) else !CJ e.type && (decide (e.type.name=(⟨#[]⟩:ByteArray)) && (decide (e.type.args.length=0) && nmOk e.name))
noncomputable def GH (e:Ex):Bool:=e.targs.all (fun t=>decide (e.kind=2) && CJ t) && (EI e && Dj e)
mutual
noncomputable def BI:Ex→Bool
 | .mk k n t ta ks p=>KW ks && GH (.mk k n t ta ks p)
noncomputable def KW:List Ex→Bool
 | []=>true
 | e :: r=>BI e && KW r
end
theorem Mo:∀ l,KW l=l.all BI
 | []=>rfl
 | e :: r=>by rw[KW,Mo r]; rfl
theorem DX (e:Ex):BI e=(e.kids.all BI && GH e):=by
 cases e;rw[BI,Mo]
 rfl
theorem XQ {e x:Ex} (h:x∈e.kids):wN (CA x)≤wN (CA e):=by
 rw[KV e,AW];have:∀ l:List Ex,x∈l→wN (CA x)≤wN (l.flatMap CA):=by
  intro l;induction l with
  | nil=>intro h; cases h
  | cons y r ih =>
   intro h;rw[eO,AW];rcases eq.1 h with rfl | h
   ·omega
   ·have:=ih h; omega
 have:=this e.kids h;omega
theorem Gl (e:Ex):(AO e.type).length≤wN (CA e):=by
 refine DA ?_;rw[KV];simp
theorem Vx {e:Ex} {t:Ty} (h:t∈e.targs):(AO t).length≤wN (CA e):=by
 refine DA ?_;rw[KV];simp[h]
set_option maxRecDepth 100000 in
theorem Lw:∀ e:Ex,okEx e→wN (CA e)≤1000000→∀ g d,ACalls E 36 [AK e] [] g d (dB (BI e)) []:=by
 refine Ex.ind fun e ih he l g d=>?_;obtain ⟨h1,u,⟨h3,h4⟩,h5,h6⟩:=(EW e).1 he;refine Ax 108 Tryz.call36 Tryz.func36 ?_;simp only[go_sem];refine Aa fun _ aF=>Ac 2 fun P _=>?_;simp only[go_sem];refine aF (Aa fun _ aM=>Aa fun _ aV=>Ac 1 fun _ _=>?_);simp only[go_sem];refine aV (Ai ?_);refine Ay (fun m s=>∃ k,k≤e.kids.length∧m=e.kids.length - k∧(e.kids.take k).all BI=true∧Le { env:=[(1,.ptr ⟨P,1,0⟩ 0),(3,dN k)],σ:=[(⟨P,1,0⟩,.box 28 (exC e))] } s) e.kids.length ?_ ?_
 ·refine ⟨0,dX _,rfl,rfl,Ao ?_⟩;simp only[go_sem];trivial
 ·rintro m s ⟨k,hk,rfl,a0,L⟩;refine Az L ?_;clear L;refine Aa fun _ b3=>Aa fun _ ai=>?_;by_cases b:k < e.kids.length
  ·have a5:(e.kids.take (k + 1)).all BI=BI e.kids[k]:=by
    rw[ep,dO b,gu,a0];simp
   refine Ac 5 fun g2 bA=>?_;simp only[go_sem,b];refine ai (Al (Ae (b3 (Aa fun _ bl=>Ai (Aa fun _ ao=>Am fun _ _ _ _ M ap=>Af 5 M ?_)))));simp only[go_sem,getM b];cases r:BI e.kids[k] with
   | false =>
    have hf:BI e=false:=by
     rw[DX];have:e.kids.all BI=false:=by
      rw[fH];exact ⟨_,dP b,by rw[r]; decide⟩
     rw[this]; rfl
    refine Ak M (ih _ (dP b) (h6 _ (dP b)) (ef (XQ (dP b)) l) _ _) ?_;refine Ad 1 M ?_;simp only[go_sem,r];refine ap (ao (Al (Aa fun _ bu=>Ac 1 fun _ _=>?_)));simp only[go_sem];refine bu (Ah (Ag ?_));simp only[go_sem];exact Co.of_eq (by rw[hf])
   | true =>
    refine Ak M (ih _ (dP b) (h6 _ (dP b)) (ef (XQ (dP b)) l) _ _) ?_;refine Ad 1 M ?_;simp only[go_sem,r];refine ap (ao (Aj (Ae (bl (Ac 3 fun _ _=>?_)))));simp only[go_sem];try simp (disch:=omega) only[Au]
    refine ⟨_,?_,k + 1,b,rfl,by rw[a5,r],Ao ?_⟩
    ·omega
    simp only[go_sem];omega
  ·have:k=e.kids.length:=by omega
   subst this;rw[eo] at a0;refine Ac 5 fun g2 bA=>?_;simp only[go_sem,b];refine ai (Aj (Aq (aM (Aa fun _ bv=>Aa fun _ aG=>Ac 1 fun _ _=>?_))));simp only[go_sem];refine aG (Ai ?_);refine Ay (fun m s=>∃ k,k≤e.targs.length∧m=e.targs.length - k∧(e.targs.take k).all (fun t=>decide (e.kind=2) && CJ t)=true∧Le { env:=[(1,.ptr ⟨P,1,0⟩ 0),(4,dN k)],σ:=[(⟨P,1,0⟩,.box 28 (exC e))] } s) e.targs.length ?_ ?_
   ·refine ⟨0,dX _,rfl,rfl,Ao ?_⟩;simp only[go_sem];trivial
   ·rintro m s ⟨k,hk,rfl,a1,L⟩;refine Az L ?_;clear L;refine Aa fun _ aH=>Aa fun _ af=>?_;by_cases b:k < e.targs.length
    ·have a5:(e.targs.take (k + 1)).all (fun t=>decide (e.kind=2) && CJ t)=(decide (e.kind=2) && CJ e.targs[k]):=by
      rw[ep,dO b,gu,a1];simp
     refine Ac 5 fun g7 bD=>?_;simp only[go_sem,b];refine af (Al (Ae (aH (Aa fun _ aI=>Ai (Aa fun _ X=>?_)))));by_cases n:e.kind=2
     ·cases r:CJ e.targs[k] with
      | false =>
       have a2:GH e=false:=by
        unfold GH;rw[fH.2 ⟨_,dP b,by simp only[r,fN]; decide⟩]
        rfl
       refine Am fun g9 aw bG az F Z=>Af 9 F ?_;simp only[go_sem,getM b,n];refine Ak F (BE _ (h4 _ (dP b)) (ef (Vx (dP b)) l) _ _) ?_;refine Ad 2 F ?_;simp only[go_sem,r];refine Z (X (Al (Aa fun _ aJ=>Ac 1 fun aA bz=>?_)));simp only[go_sem];refine aJ (Ah (Ag ?_));simp only[go_sem];exact Co.of_eq (by rw[DX,a2,fN])
      | true =>
       refine Am fun g9 aw bG az F Z=>Af 9 F ?_;simp only[go_sem,getM b,n];refine Ak F (BE _ (h4 _ (dP b)) (ef (Vx (dP b)) l) _ _) ?_;refine Ad 2 F ?_;simp only[go_sem,r];refine Z (X (Aj (Ae (aI (Ac 3 fun _ _=>?_)))));simp only[go_sem];try simp (disch:=omega) only[Au]
       refine ⟨_,?_,k + 1,b,rfl,by rw[a5,r]; simp[n],Ao ?_⟩
       ·omega
       simp only[go_sem,n];try trivial
       try omega
     ·have a2:GH e=false:=by
       unfold GH;rw[fH.2 ⟨_,dP b,by simp[n]⟩]
       rfl
      refine Ac 12 fun g9 aw=>?_;simp only[go_sem,n];refine X (Al (Aa fun _ aK=>Ac 1 fun aA bz=>?_));simp only[go_sem];refine aK (Ah (Ag ?_));simp only[go_sem];exact Co.of_eq (by rw[DX,a2,fN])
    ·have:k=e.targs.length:=by omega
     subst this;rw[eo] at a1;refine Ac 5 fun g7 bD=>?_;simp only[go_sem,b];refine af (Aj (Aq (bv (Aa fun _ v=>?_))));have i:BI e=(EI e && Dj e):=by
      rw[DX,a0];unfold GH;rw[a1]
      rfl
     by_cases o:e.kind=3
     ·have j:(e.kind=3)=True:=eq_true o;have q:(e.kind=5)=False:=eq_false (by omega);have H:(e.kind=1)=False:=eq_false (by omega);have I:(e.kind=2)=False:=eq_false (by omega);cases c:CJ e.type with
      | false =>
       refine Ac 9 fun y A=>?_;simp only[go_sem,j];refine v (Aa fun _ _=>Aa fun _ aL=>Am fun z B G x a h=>Af 3 a ?_);simp only[go_sem];refine Ak a (BE _ u (ef (Gl e) l) _ _) ?_;refine Ad 18 a ?_;simp only[go_sem,c];refine h (aL (Al (Aa fun _ aN=>Ac 1 fun Q R=>?_)));simp only[go_sem];refine aN (Ah (Ag ?_));simp only[go_sem];exact Co.of_eq (by rw[i]; simp[EI,Dj,typed,o,c])
      | true =>
       refine Ac 9 fun y A=>?_;simp only[go_sem,j];refine v (Aa fun _ aO=>Aa fun _ aP=>Am fun z B G x a h=>Af 3 a ?_);simp only[go_sem];refine Ak a (BE _ u (ef (Gl e) l) _ _) ?_;refine Ad 18 a ?_;simp only[go_sem,c];refine h (aP (Aj (Ae (aO (Aa fun _ aQ=>Aa fun _ ag=>?_)))));by_cases f:e.name=(⟨#[]⟩:ByteArray)
       ·have C : (e.name=(⟨#[]⟩:ByteArray))=True:=eq_true f;refine Ac 16 fun J K=>?_;simp only[go_sem,C];refine ag (Aj (Ae (aQ (Aa fun _ _=>Aa fun _ aR=>Ac 2 fun a8 ar=>?_))));simp only[go_sem];refine aR (Ai (Aa fun _ aS=>Ac 2 fun V a3=>?_));simp only[go_sem,H];refine aS (Aj (Aa fun _ aT=>Ac 2 fun W a4=>?_));simp only[go_sem,I];refine aT (Aj (Aa fun _ aU=>Ac 2 fun a9 au=>?_));simp only[go_sem,j];refine aU (Al (Aa fun _ aW=>Ac 1 fun _ _=>?_));simp only[go_sem];refine aW (Ah (Ag ?_));simp only[go_sem];exact Co.of_eq (by rw[i]; simp[EI,Dj,typed,o,c,f])
       ·have C : (e.name=(⟨#[]⟩:ByteArray))=False:=eq_false f;refine Ac 16 fun J K=>?_;simp only[go_sem,C];refine ag (Al (Aa fun _ aX=>Ac 1 fun a7 aq=>?_));simp only[go_sem];refine aX (Ah (Ag ?_));simp only[go_sem];exact Co.of_eq (by rw[i]; simp[EI,Dj,typed,o,c,f])
     ·by_cases p:e.kind=5
      ·have j:(e.kind=3)=False:=eq_false (by omega);have q:(e.kind=5)=True:=eq_true p;have H:(e.kind=1)=False:=eq_false (by omega);have I:(e.kind=2)=False:=eq_false (by omega);have O:(e.kind=4)=False:=eq_false (by omega);cases c:CJ e.type with
       | false =>
        refine Ac 9 fun y A=>?_;simp only[go_sem,j,q];refine v (Aa fun _ _=>Aa fun _ aY=>Am fun z B G x a h=>Af 3 a ?_);simp only[go_sem];refine Ak a (BE _ u (ef (Gl e) l) _ _) ?_;refine Ad 18 a ?_;simp only[go_sem,c];refine h (aY (Al (Aa fun _ aZ=>Ac 1 fun Q R=>?_)));simp only[go_sem];refine aZ (Ah (Ag ?_));simp only[go_sem];exact Co.of_eq (by rw[i]; simp[EI,Dj,typed,p,c])
       | true =>
        refine Ac 9 fun y A=>?_;simp only[go_sem,j,q];refine v (Aa fun _ b0=>Aa fun _ b1=>Am fun z B G x a h=>Af 3 a ?_);simp only[go_sem];refine Ak a (BE _ u (ef (Gl e) l) _ _) ?_;refine Ad 18 a ?_;simp only[go_sem,c];refine h (b1 (Aj (Ae (b0 (Aa fun _ b2=>Aa fun _ ah=>?_)))));by_cases f:e.name=(⟨#[]⟩:ByteArray)
        ·have C : (e.name=(⟨#[]⟩:ByteArray))=True:=eq_true f;refine Ac 16 fun J K=>?_;simp only[go_sem,C];refine ah (Aj (Ae (b2 (Aa fun _ _=>Aa fun _ b4=>Ac 2 fun a8 ar=>?_))));simp only[go_sem];refine b4 (Ai (Aa fun _ b5=>Ac 2 fun V a3=>?_));simp only[go_sem,H];refine b5 (Aj (Aa fun _ b6=>Ac 2 fun W a4=>?_));simp only[go_sem,I];refine b6 (Aj (Aa fun _ b7=>Ac 2 fun a9 au=>?_));simp only[go_sem,j];refine b7 (Aj (Aa fun _ b8=>Aa fun _ b9=>Ac 2 fun aa av=>?_));simp only[go_sem,O];refine b9 (Aj (Ac 2 fun aC bB=>?_));simp only[go_sem,q];refine b8 (Al (Aa fun _ ba=>Ac 5 fun aD bC=>?_))
         simp only[go_sem];refine ba (Ah (Ag ?_));simp only[go_sem];exact Co.of_eq (by rw[i]; simp[EI,Dj,typed,p,c,f])
        ·have C : (e.name=(⟨#[]⟩:ByteArray))=False:=eq_false f;refine Ac 16 fun J K=>?_;simp only[go_sem,C];refine ah (Al (Aa fun _ bb=>Ac 1 fun a7 aq=>?_));simp only[go_sem];refine bb (Ah (Ag ?_));simp only[go_sem];exact Co.of_eq (by rw[i]; simp[EI,Dj,typed,p,c,f])
      ·have j:(e.kind=3)=False:=eq_false o;have q:(e.kind=5)=False:=eq_false p;cases c:CJ e.type with
       | true =>
        refine Ac 9 fun y A=>?_;simp only[go_sem,j,q];refine v (Aa fun _ _=>Aa fun _ bc=>Am fun z B G x a h=>Af 3 a ?_);simp only[go_sem];refine Ak a (BE _ u (ef (Gl e) l) _ _) ?_;refine Ad 18 a ?_;simp only[go_sem,c];refine h (bc (Al (Aa fun _ bd=>Ac 1 fun Q R=>?_)));simp only[go_sem];refine bd (Ah (Ag ?_));simp only[go_sem];exact Co.of_eq (by rw[i]; simp[EI,Dj,typed,o,p,c])
       | false =>
        by_cases w:e.type.name=(⟨#[]⟩:ByteArray)
        ·have S:(e.type.name=(⟨#[]⟩:ByteArray))=True:=eq_true w;by_cases ax:e.type.args.length=0
         ·have a6:((e.type.args.length:Int) > 0)=False:=eq_false (by omega);have N:e.type.args=[]:=ex ax;refine Ac 9 fun y A=>?_;simp only[go_sem,j,q];refine v (Aa fun _ be=>Aa fun _ bf=>Am fun z B G x a h=>Af 3 a ?_);simp only[go_sem];refine Ak a (BE _ u (ef (Gl e) l) _ _) ?_;refine Ad 18 a ?_;simp only[go_sem,S,a6,c];refine h (bf (Aj (Ae (be (Aa fun _ bg=>Aa fun _ aj=>?_)))));cases f:nmOk e.name with
          | false =>
           refine Am fun J K bF ay D Y=>Af 12 D ?_;simp only[go_sem];refine Ak D (CG e.name h1 _ _) ?_;refine Ad 3 D ?_;simp only[go_sem,f];refine Y (aj (Al (Aa fun _ bh=>Ac 1 fun a7 aq=>?_)));simp only[go_sem];refine bh (Ah (Ag ?_));simp only[go_sem];exact Co.of_eq (by rw[i]; simp[EI,Dj,typed,o,p,c,w,N,f])
          | true =>
           refine Am fun J K bF ay D Y=>Af 12 D ?_;simp only[go_sem];refine Ak D (CG e.name h1 _ _) ?_;refine Ad 3 D ?_;simp only[go_sem,f];refine Y (aj (Aj (Ae (bg (Aa fun _ bi=>Aa fun _ bj=>Ac 2 fun a8 ar=>?_)))));simp only[go_sem];refine bj (Ai (Aa fun _ ak=>?_));by_cases T:e.kind=1
           ·have H:(e.kind=1)=True:=eq_true T;refine Ac 2 fun V a3=>?_;simp only[go_sem,H];refine ak (Al (Aa fun _ bk=>Ac 5 fun _ _=>?_));simp only[go_sem];refine bk (Ah (Ag ?_));simp only[go_sem];exact Co.of_eq (by rw[i]; simp[EI,Dj,typed,c,w,N,f,T])
           ·have H:(e.kind=1)=False:=eq_false T;refine Ac 2 fun V a3=>?_;simp only[go_sem,H];refine ak (Aj (Aa fun _ al=>?_));by_cases n:e.kind=2
            ·have I:(e.kind=2)=True:=eq_true n;refine Ac 2 fun W a4=>?_;simp only[go_sem,I];refine al (Al (Aa fun _ bm=>Ac 5 fun _ _=>?_));simp only[go_sem];refine bm (Ah (Ag ?_));simp only[go_sem];exact Co.of_eq (by rw[i]; simp[EI,Dj,typed,c,w,N,f,n])
            ·have I:(e.kind=2)=False:=eq_false n;refine Ac 2 fun W a4=>?_;simp only[go_sem,I];refine al (Aj (Aa fun _ bn=>Ac 2 fun a9 au=>?_));simp only[go_sem,j];refine bn (Aj (Aa fun _ am=>Aa fun _ an=>?_));by_cases U:e.kind=4
             ·have O:(e.kind=4)=True:=eq_true U;refine Ac 2 fun aa av=>?_;simp only[go_sem,O];refine an (Al (Ae (am (Al (Aa fun _ bo=>Ac 5 fun aD bC=>?_)))));simp only[go_sem];refine bo (Ah (Ag ?_));simp only[go_sem];exact Co.of_eq (by rw[i]; simp[EI,Dj,typed,c,w,N,f,U])
             ·have O:(e.kind=4)=False:=eq_false U;refine Ac 2 fun aa av=>?_;simp only[go_sem,O];refine an (Aj (Ac 2 fun aC bB=>?_));simp only[go_sem,q];refine am (Aj (Ae (bi (Aa fun _ bp=>Ac 1 fun _ _=>?_))));simp only[go_sem];refine bp (Ah (Ag ?_));simp only[go_sem];exact Co.of_eq (by rw[i]; simp[EI,Dj,typed,o,p,c,w,N,f,T,n,U])
         ·have a6:((e.type.args.length:Int) > 0)=True:=eq_true (by omega);refine Ac 9 fun y A=>?_;simp only[go_sem,j,q];refine v (Aa fun _ _=>Aa fun _ bq=>Am fun z B G x a h=>Af 3 a ?_);simp only[go_sem];refine Ak a (BE _ u (ef (Gl e) l) _ _) ?_;refine Ad 18 a ?_;simp only[go_sem,S,a6,c];refine h (bq (Al (Aa fun _ br=>Ac 1 fun Q R=>?_)));simp only[go_sem];refine br (Ah (Ag ?_));simp only[go_sem];exact Co.of_eq (by rw[i]; simp[EI,Dj,typed,o,p,c,ax])
        ·have S:(e.type.name=(⟨#[]⟩:ByteArray))=False:=eq_false w;refine Ac 9 fun y A=>?_;simp only[go_sem,j,q];refine v (Aa fun _ _=>Aa fun _ bs=>Am fun z B G x a h=>Af 3 a ?_);simp only[go_sem];refine Ak a (BE _ u (ef (Gl e) l) _ _) ?_;refine Ad 18 a ?_;simp only[go_sem,S,c];refine h (bs (Al (Aa fun _ bt=>Ac 1 fun Q R=>?_)));simp only[go_sem];refine bt (Ah (Ag ?_));simp only[go_sem];exact Co.of_eq (by rw[i]; simp[EI,Dj,typed,o,p,c,w])
noncomputable def DG (f:Formal):Bool:=nmOk f.name && CJ f.bound
noncomputable def D5 (f:Param):Bool:=nmOk f.name && CJ f.type
noncomputable def DH (s:Sig):Bool:=nmOk s.name && (s.formals.all DG && (s.params.all D5 && CJ s.result))
set_option maxRecDepth 100000 in
theorem FG (l:List Formal) (hl:l.length≤1000000) (h:∀ f∈l,okFm f) (hw:∀ f∈l,(AO f.bound).length≤1000000) (g d:Nat):ACalls E 66 [slFm l] [] g d (dB (l.all DG)) []:=by
 refine Ax 26 Tryz.call66 Tryz.func66 ?_;simp only[go_sem];refine Aa fun _ w=>Ac 1 fun _ _=>?_;simp only[go_sem];refine w (Aa fun _ y=>Aa fun _ z=>Ac 1 fun _ _=>?_);simp only[go_sem];refine z (Ai ?_);refine Ay (fun m s=>∃ k,k≤l.length∧m=l.length - k∧(l.take k).all DG=true∧Le { env:=[(0,slFm l),(3,dN k)],σ:=[] } s) l.length ?_ ?_
 ·refine ⟨0,dX _,rfl,rfl,Ao ?_⟩;simp only[go_sem];trivial
 ·rintro m s ⟨k,I,rfl,o,r⟩;refine Az r ?_;clear r;refine Aa fun _ A=>Aa fun _ q=>?_;by_cases a:k < l.length
  ·have H:(l.take (k + 1)).all DG=DG l[k]:=by
    rw[ep,dO a,gu,o];simp
   have i:=h _ (dP a);have t:=hw _ (dP a);refine Ac 4 fun u F=>?_;simp only[go_sem,a];refine q (Al (Ae (A (Aa fun _ B=>Ai (Aa fun _ j=>Am fun _ _ _ _ b n=>Af 5 b ?_)))));simp only[go_sem,getM a];cases c:nmOk l[k].name with
   | false =>
    refine Ak b (CG l[k].name i.1 _ _) ?_;refine Ad 10 b ?_;simp only[go_sem,c];refine n (j ?_);have p:l.all DG=false:=by
     rw[fH];exact ⟨_,dP a,by simp[DG,c]⟩
    refine Al (Aa fun _ C=>Ac 1 fun v G=>?_);simp only[go_sem];refine C (Ah (Ag ?_));simp only[go_sem];exact Co.of_eq (by rw[p])
   | true =>
    refine Ak b (CG l[k].name i.1 _ _) ?_;refine Af 7 b ?_;simp only[go_sem,c,getM a];cases e:CJ l[k].bound with
    | false =>
     refine Ak b (BE _ i.2 t _ _) ?_;refine Ad 2 b ?_;simp only[go_sem,e];refine n (j ?_);have c:=e;have p:l.all DG=false:=by
      rw[fH];exact ⟨_,dP a,by simp[DG,c]⟩
     refine Al (Aa fun _ D=>Ac 1 fun v G=>?_);simp only[go_sem];refine D (Ah (Ag ?_));simp only[go_sem];exact Co.of_eq (by rw[p])
    | true =>
     refine Ak b (BE _ i.2 t _ _) ?_;refine Ad 2 b ?_;simp only[go_sem,e];refine n (j (Aj (Ae (B (Ac 3 fun _ _=>?_)))));simp only[go_sem];try simp (disch:=omega) only[Au]
     refine ⟨_,?_,k + 1,a,rfl,by rw[H,DG,c,e]; rfl,Ao ?_⟩
     ·omega
     simp only[go_sem];try omega
  ·have:k=l.length:=by omega
   subst this;rw[eo] at o;refine Ac 4 fun u F=>?_;simp only[go_sem,a];refine q (Aj (Aq (y (Aa fun _ x=>Ac 1 fun _ _=>?_))));simp only[go_sem];refine x (Ah (Ag ?_));simp only[go_sem];exact Co.of_eq (by rw[o])
set_option maxRecDepth 100000 in
theorem FH (l:List Param) (hl:l.length≤1000000) (h:∀ f∈l,okPa f) (hw:∀ f∈l,(AO f.type).length≤1000000) (g d:Nat):ACalls E 67 [slPa l] [] g d (dB (l.all D5)) []:=by
 refine Ax 26 Tryz.call67 Tryz.func67 ?_;simp only[go_sem];refine Aa fun _ w=>Ac 1 fun _ _=>?_;simp only[go_sem];refine w (Aa fun _ y=>Aa fun _ z=>Ac 1 fun _ _=>?_);simp only[go_sem];refine z (Ai ?_);refine Ay (fun m s=>∃ k,k≤l.length∧m=l.length - k∧(l.take k).all D5=true∧Le { env:=[(0,slPa l),(3,dN k)],σ:=[] } s) l.length ?_ ?_
 ·refine ⟨0,dX _,rfl,rfl,Ao ?_⟩;simp only[go_sem];trivial
 ·rintro m s ⟨k,I,rfl,o,r⟩;refine Az r ?_;clear r;refine Aa fun _ A=>Aa fun _ q=>?_;by_cases a:k < l.length
  ·have H:(l.take (k + 1)).all D5=D5 l[k]:=by
    rw[ep,dO a,gu,o];simp
   have i:=h _ (dP a);have t:=hw _ (dP a);refine Ac 4 fun u F=>?_;simp only[go_sem,a];refine q (Al (Ae (A (Aa fun _ B=>Ai (Aa fun _ j=>Am fun _ _ _ _ b n=>Af 5 b ?_)))));simp only[go_sem,getM a];cases c:nmOk l[k].name with
   | false =>
    refine Ak b (CG l[k].name i.1 _ _) ?_;refine Ad 10 b ?_;simp only[go_sem,c];refine n (j ?_);have p:l.all D5=false:=by
     rw[fH];exact ⟨_,dP a,by simp[D5,c]⟩
    refine Al (Aa fun _ C=>Ac 1 fun v G=>?_);simp only[go_sem];refine C (Ah (Ag ?_));simp only[go_sem];exact Co.of_eq (by rw[p])
   | true =>
    refine Ak b (CG l[k].name i.1 _ _) ?_;refine Af 7 b ?_;simp only[go_sem,c,getM a];cases e:CJ l[k].type with
    | false =>
     refine Ak b (BE _ i.2 t _ _) ?_;refine Ad 2 b ?_;simp only[go_sem,e];refine n (j ?_);have c:=e;have p:l.all D5=false:=by
      rw[fH];exact ⟨_,dP a,by simp[D5,c]⟩
     refine Al (Aa fun _ D=>Ac 1 fun v G=>?_);simp only[go_sem];refine D (Ah (Ag ?_));simp only[go_sem];exact Co.of_eq (by rw[p])
    | true =>
     refine Ak b (BE _ i.2 t _ _) ?_;refine Ad 2 b ?_;simp only[go_sem,e];refine n (j (Aj (Ae (B (Ac 3 fun _ _=>?_)))));simp only[go_sem];try simp (disch:=omega) only[Au]
     refine ⟨_,?_,k + 1,a,rfl,by rw[H,D5,c,e]; rfl,Ao ?_⟩
     ·omega
     simp only[go_sem];try omega
  ·have:k=l.length:=by omega
   subst this;rw[eo] at o;refine Ac 4 fun u F=>?_;simp only[go_sem,a];refine q (Aj (Aq (y (Aa fun _ x=>Ac 1 fun _ _=>?_))));simp only[go_sem];refine x (Ah (Ag ?_));simp only[go_sem];exact Co.of_eq (by rw[o])
set_option maxRecDepth 100000 in
theorem F2 (s:Sig) (hs:smSi s) (h2:s.formals.length≤1000000) (h3:s.params.length≤1000000) (hw:wN (AP s)≤1000000) (g d:Nat):ACalls E 68 [AH s] [] g d (dB (DH s)) []:=by
 obtain ⟨q,⟨r,l⟩,⟨u,m⟩,p⟩:=hs;have h:∀ t∈AP s,(AO t).length≤1000000:=fun t o=>ef (DA o) hw;refine Ax 21 Tryz.call68 Tryz.func68 ?_;simp only[go_sem];refine Aa fun _ n=>Ac 2 fun _ _=>?_;simp only[go_sem];refine n (Aa fun _ i=>Am fun _ _ _ _ b j=>Af 2 b ?_);simp only[go_sem];cases c:nmOk s.name with
 | false =>
  refine AA b rfl rfl rfl (CG s.name (by omega) _ _) (CoL.refl _) ?_;refine Ad 16 b ?_;simp only[go_sem,c];refine j (i (Ah (Ag ?_)));simp only[go_sem];exact Co.of_eq (by simp[DH,c])
 | true =>
  refine AA b rfl rfl rfl (CG s.name (by omega) _ _) (CoL.refl _) ?_;refine Af 3 b ?_;simp only[go_sem,c];cases e:s.formals.all DG with
  | false =>
   refine AA b rfl rfl rfl (FG s.formals h2 (fun f a=>(l f a).ok) (fun f a=>h _ (by unfold AP; simp; exact .inl ⟨f,a,rfl⟩)) _ _) (CoL.refl _) ?_;refine Ad 12 b ?_;simp only[go_sem,e];refine j (i (Ah (Ag ?_)));simp only[go_sem];exact Co.of_eq (by simp[DH,c,e])
  | true =>
   refine AA b rfl rfl rfl (FG s.formals h2 (fun f a=>(l f a).ok) (fun f a=>h _ (by unfold AP; simp; exact .inl ⟨f,a,rfl⟩)) _ _) (CoL.refl _) ?_;refine Af 4 b ?_;simp only[go_sem,e];cases k:s.params.all D5 with
   | false =>
    refine AA b rfl rfl rfl (FH s.params h3 (fun f a=>(m f a).ok) (fun f a=>h _ (by unfold AP; simp; exact .inr (.inl ⟨f,a,rfl⟩))) _ _) (CoL.refl _) ?_;refine Ad 7 b ?_;simp only[go_sem,k];refine j (i (Ah (Ag ?_)));simp only[go_sem];exact Co.of_eq (by simp[DH,c,e,k])
   | true =>
    refine AA b rfl rfl rfl (FH s.params h3 (fun f a=>(m f a).ok) (fun f a=>h _ (by unfold AP; simp; exact .inr (.inl ⟨f,a,rfl⟩))) _ _) (CoL.refl _) ?_;refine Af 4 b ?_;simp only[go_sem,k];refine AA b rfl rfl rfl (BE _ (smTy.ok _ p) (h _ (by unfold AP; simp)) _ _) (CoL.refl _) ?_;refine Ad 2 b ?_;simp only[go_sem];refine j (i (Ah (Ag ?_)));simp only[go_sem];exact Co.of_eq (by simp[DH,c,e,k])
set_option maxRecDepth 100000 in
theorem types05z (l:List Ty) (hl:l.length≤1000000) (g d:Nat):ACalls E 116 [slTy l,slTy []] [] g d (dB (decide (l.length=0))) []:=by
 refine Ax 27 Tryz.call116 Tryz.func116 ?_;simp only[go_sem];refine Aa fun _ f=>Ac 1 fun _ _=>?_;simp only[go_sem];refine f (Aa fun _ h=>Aa fun _ a=>?_);by_cases h0:l.length=0
 ·obtain rfl:l=[]:=ex h0;refine Ac 5 fun c p=>?_;simp only[go_sem];refine a (Aj (Ae (h (Aa fun _ i=>Aa fun _ j=>Ac 1 fun _ _=>?_))));simp only[go_sem];refine j (Ai ?_);refine Ay (fun m s=>m=0∧Le { env:=[(0,slTy []),(1,slTy []),(5,dN 0)],σ:=[] } s) 0 ?_ ?_
  ·refine ⟨rfl,Ao ?_⟩;simp only[go_sem];all_goals first|trivial|omega
  ·rintro m s ⟨rfl,b⟩;refine Az b ?_;clear b;refine Aa fun _ _=>Aa fun _ k=>Ac 4 fun _ _=>?_;simp only[go_sem,show (((0:Nat):Int) < ((0:Nat):Int))=False from eq_false (by decide)];refine k (Aj (Aq (i (Aa fun _ n=>Ac 1 fun _ _=>?_))));simp only[go_sem];refine n (Ah (Ag ?_));simp only[go_sem];exact Co.of_eq (by simp[])
 ·have e:((l.length:Int)=((0:Nat):Int))=False:=eq_false (by omega);refine Ac 5 fun c p=>?_;simp only[go_sem,e];refine a (Al (Aa fun _ o=>Ac 1 fun _ _=>?_));simp only[go_sem];refine o (Ah (Ag ?_));simp only[go_sem];exact Co.of_eq (by simp[h0])
noncomputable def Ic (e:Ex):Bool:=decide (e.kind=0) && (decide (e.name=ByteArray.empty) && (decide (BK e.type BV=0) && (decide (e.targs.length=0) && decide (e.kids.length=0))))
set_option maxRecDepth 100000 in
theorem same05z (e:Ex) (h:okEx e) (h2:e.targs.length≤1000000) (g d:Nat):ACalls E 70 [AK e,AK Cb] [] g d (dB (Ic e)) []:=by
 have q:=((EW e).1 h).2.1;refine Ax 62 Tryz.call70 Tryz.func70 ?_;simp only[go_sem];refine Aa fun _ y=>Ac 3 fun v _=>?_;simp only[go_sem];refine y (Aa fun _ D=>Aa fun _ f=>?_);by_cases r:e.kind=0
 ·have c:(e.kind=0)=True:=eq_true r;by_cases n0:e.name=ByteArray.empty
  ·have m0:(e.name=ByteArray.empty)=True:=eq_true n0;cases i:decide (BK e.type BV=0) with
   | true =>
    by_cases l:e.targs.length=0
    ·by_cases n:e.kids.length=0
     ·refine Am fun j k u t a b=>Af 17 a ?_;simp only[go_sem,Cb,c,m0];refine Ak a (CM e.type BV q _ _) ?_;refine Af 7 a ?_;simp only[go_sem,i];refine Ak a (types05z e.targs h2 _ _) ?_;refine Ad 11 a ?_;simp only[go_sem,l,n];refine b (f (Aj (Ae (D (Aa fun _ F=>Aa fun _ G=>Ac 1 fun _ _=>?_)))));simp only[go_sem];refine G (Ai ?_);refine Ay (fun m s=>m=0∧Le { env:=[(2,.ptr ⟨v,2,0⟩ 0),(5,dN 0)],σ:=[(⟨v,2,0⟩,.box 28 (exC e))] } s) 0 ?_ ?_
      ·refine ⟨rfl,Ao ?_⟩;simp only[go_sem];all_goals first|trivial|omega
      ·rintro m s ⟨rfl,w⟩;refine Az w ?_;clear w;refine Aa fun _ _=>Aa fun _ H=>Ac 5 fun _ _=>?_;simp only[go_sem,n,show (((0:Nat):Int) < ((0:Nat):Int))=False from eq_false (by decide)];refine H (Aj (Aq (F (Aa fun _ I=>Ac 1 fun _ _=>?_))));simp only[go_sem];refine I (Ah (Ag ?_));simp only[go_sem];exact Co.of_eq (by simp[Ic,r,n0,i,l,n])
     ·have x:((e.kids.length:Int)=((0:Nat):Int))=False:=eq_false (by omega);refine Am fun j k u t a b=>Af 17 a ?_;simp only[go_sem,Cb,c,m0];refine Ak a (CM e.type BV q _ _) ?_;refine Af 7 a ?_;simp only[go_sem,i];refine Ak a (types05z e.targs h2 _ _) ?_;refine Ad 11 a ?_;simp only[go_sem,l,x];refine b (f (Al (Aa fun _ J=>Ac 1 fun o p=>?_)));simp only[go_sem];refine J (Ah (Ag ?_));simp only[go_sem];exact Co.of_eq (by simp[Ic,n])
    ·refine Am fun j k u t a b=>Af 17 a ?_;simp only[go_sem,Cb,c,m0];refine Ak a (CM e.type BV q _ _) ?_;refine Af 7 a ?_;simp only[go_sem,i];refine Ak a (types05z e.targs h2 _ _) ?_;refine Ad 11 a ?_;simp only[go_sem,l];refine b (f (Al (Aa fun _ z=>Ac 1 fun o p=>?_)));simp only[go_sem];refine z (Ah (Ag ?_));simp only[go_sem];exact Co.of_eq (by simp[Ic,l])
   | false =>
    refine Am fun j k u t a b=>Af 17 a ?_;simp only[go_sem,Cb,c,m0];refine Ak a (CM e.type BV q _ _) ?_;refine Ad 19 a ?_;simp only[go_sem,i];refine b (f (Al (Aa fun _ A=>Ac 1 fun o p=>?_)));simp only[go_sem];refine A (Ah (Ag ?_));simp only[go_sem];exact Co.of_eq (by simp[Ic,of_decide_eq_false i])
  ·have m0:(e.name=ByteArray.empty)=False:=eq_false n0;refine Ac 37 fun j k=>?_;simp only[go_sem,Cb,c,m0];refine f (Al (Aa fun _ B=>Ac 1 fun o p=>?_));simp only[go_sem];refine B (Ah (Ag ?_));simp only[go_sem];exact Co.of_eq (by simp[Ic,n0])
 ·have c:(e.kind=0)=False:=eq_false r;refine Ac 37 fun j k=>?_;simp only[go_sem,Cb,c];refine f (Al (Aa fun _ C=>Ac 1 fun o p=>?_));simp only[go_sem];refine C (Ah (Ag ?_));simp only[go_sem];exact Co.of_eq (by simp[Ic,r])
noncomputable def GI (d:Dec):Bool:=decide (d.recv=(⟨#[]⟩:ByteArray)) && (decide ((d.vars.length:Int)=0) && (DV false d.sig Bw && Ic d.body))
noncomputable def IQ (d:Dec):Bool:=nmOk d.recv && (decide ((d.formals.length:Int) + d.fields.length + d.sigs.length=0) && (DH d.sig && BI d.body))
noncomputable def DQ (d:Dec):Bool:=if d.kind=3 then IQ d else GI d && ((decide (d.kind=1) && decide ((d.sigs.length:Int)=0)) || (decide (d.kind=2) && decide ((d.fields.length:Int)=0)))
noncomputable def Cd (d:Dec):Bool:=nmOk d.name && (d.formals.all DG && (d.fields.all D5 && (d.sigs.all DH && (d.vars.all nmOk && DQ d))))
theorem HF (s:Sig):s.formals.length + s.params.length + 1≤wN (AP s):=by
 have a:=FX (AP s);have:(AP s).length=s.formals.length + s.params.length + 1:=by simp[AP]; omega
 omega
set_option maxRecDepth 100000 in
theorem Lx (d:Dec) (hd:smDe d) (hw:wN (Bl d)≤1000000) (g q:Nat):ACalls E 35 [Ce d] [] g q (dB (Cd d)) []:=by
 obtain ⟨k1,⟨k2,k3⟩,⟨k4,k5⟩,⟨k6,k7⟩,k8,⟨k9,bb⟩,Z,O⟩:=hd;have w1:∀ t∈Bl d,(AO t).length≤1000000:=fun t ht=>ef (DA ht) hw;have w2:∀ f∈d.formals,(AO f.bound).length≤1000000:=fun f n=>w1 _ (by unfold Bl; simp; exact .inl ⟨f,n,rfl⟩);have w3:∀ f∈d.fields,(AO f.type).length≤1000000:=fun f n=>w1 _ (by unfold Bl; simp; exact .inr (.inl ⟨f,n,rfl⟩));have a9:=hw;unfold Bl at a9;rw[AW,AW,AW,AW,Ej] at a9;have w4:∀ s∈d.sigs,wN (AP s)≤1000000:=fun s I=>by
  have:wN (AP s)≤(d.sigs.map (fun a=>wN (AP a))).sum:=by
   clear a9
   revert I
   generalize d.sigs=l;intro I;induction l with
   | nil=>cases I
   | cons x r ih =>
    rw[eM,fV];rcases eq.1 I with rfl | h
    ·omega
    ·have:=ih h; omega
  omega
 have w5:wN (AP d.sig)≤1000000:=by omega
 have w6:wN (CA d.body)≤1000000:=by omega
 have w7:∀ s∈d.sigs,s.formals.length≤1000000∧s.params.length≤1000000:=fun s I=>by
  have:=w4 s I;have h2:=HF s;omega
 have w8:d.sig.formals.length≤1000000∧d.sig.params.length≤1000000:=by
  have h2:=HF d.sig;omega
 refine Ax 124 Tryz.call35 Tryz.func35 ?_;simp only[go_sem];refine Aa fun _ aH=>Ac 2 fun S _=>?_;simp only[go_sem];refine aH (Aa fun _ aO=>Aa fun _ V=>Am fun _ _ _ _ c W=>Af 2 c ?_);simp only[go_sem];cases y:nmOk d.name with
 | false =>
  refine AA c rfl rfl rfl (CG d.name (by omega) _ _) (CoL.refl _) ?_;refine Ad 13 c ?_;simp only[go_sem,y];refine W (V (Al (Aa fun _ aV=>Ac 1 fun g2 ap=>?_)));simp only[go_sem];refine aV (Ah (Ag ?_));simp only[go_sem];exact Co.of_eq (by simp only[Cd,y,fc])
 | true =>
  refine AA c rfl rfl rfl (CG d.name (by omega) _ _) (CoL.refl _) ?_;refine Af 4 c ?_;simp only[go_sem,y];cases B:d.formals.all DG with
  | false =>
   refine AA c rfl rfl rfl (FG d.formals (by omega) (fun f n=>(k3 f n).ok) w2 _ _) (CoL.refl _) ?_;refine Ad 8 c ?_;simp only[go_sem,B];refine W (V (Al (Aa fun _ aW=>Ac 1 fun g2 ap=>?_)));simp only[go_sem];refine aW (Ah (Ag ?_));simp only[go_sem];exact Co.of_eq (by simp only[Cd,y,B,fc,fN])
  | true =>
   refine AA c rfl rfl rfl (FG d.formals (by omega) (fun f n=>(k3 f n).ok) w2 _ _) (CoL.refl _) ?_;refine Af 5 c ?_;simp only[go_sem,B];cases H:d.fields.all D5 with
   | false =>
    refine Ak c (FH d.fields k4 (fun f n=>(k5 f n).ok) w3 _ _) ?_;refine Ad 2 c ?_;simp only[go_sem,H];refine W (V (Al (Aa fun _ aX=>Ac 1 fun g2 ap=>?_)));simp only[go_sem];refine aX (Ah (Ag ?_));simp only[go_sem];exact Co.of_eq (by simp only[Cd,y,B,H,fc,fN])
   | true =>
    refine Ak c (FH d.fields k4 (fun f n=>(k5 f n).ok) w3 _ _) ?_;refine Ad 2 c ?_;simp only[go_sem,H];refine W (V (Aj (Ae (aO (Aa fun _ aY=>Aa fun _ aZ=>Ac 1 fun _ _=>?_)))));simp only[go_sem];refine aZ (Ai ?_);refine Ay (fun m s=>∃ k,k≤d.sigs.length∧m=d.sigs.length - k∧(d.sigs.take k).all DH=true∧Le { env:=[(1,.ptr ⟨S,1,0⟩ 0),(3,dN k)],σ:=[(⟨S,1,0⟩,.box 48 (deC d))] } s) d.sigs.length ?_ ?_
    ·refine ⟨0,dX _,rfl,rfl,Ao ?_⟩;simp only[go_sem];trivial
    ·rintro m s ⟨k,hk,rfl,Y,L⟩;refine Az L ?_;clear L;refine Aa fun _ b0=>Aa fun _ ah=>?_;by_cases b:k < d.sigs.length
     ·have a8:(d.sigs.take (k + 1)).all DH=DH d.sigs[k]:=by
       rw[ep,dO b,gu,Y];simp
      have j:=dP b;refine Ac 5 fun g4 b7=>?_;simp only[go_sem,b];refine ah (Al (Ae (b0 (Aa fun _ aI=>Ai (Aa fun _ ai=>Am fun _ _ _ _ N an=>Af 5 N ?_)))));simp only[go_sem,getM b];cases u:DH d.sigs[k] with
      | false =>
       have b4:d.sigs.all DH=false:=by
        rw[fH];exact ⟨_,j,by rw[u]; decide⟩
       refine Ak N (F2 _ (k7 _ j) (w7 _ j).1 (w7 _ j).2 (w4 _ j) _ _) ?_;refine Ad 1 N ?_;simp only[go_sem,u];refine an (ai (Al (Aa fun _ aJ=>Ac 1 fun _ _=>?_)));simp only[go_sem];refine aJ (Ah (Ag ?_));simp only[go_sem];exact Co.of_eq (by simp only[Cd,y,B,H,b4,fc,fN])
      | true =>
       refine Ak N (F2 _ (k7 _ j) (w7 _ j).1 (w7 _ j).2 (w4 _ j) _ _) ?_;refine Ad 1 N ?_;simp only[go_sem,u];refine an (ai (Aj (Ae (aI (Ac 3 fun _ _=>?_)))));simp only[go_sem];try simp (disch:=omega) only[Au]
       refine ⟨_,?_,k + 1,b,rfl,by rw[a8,u],Ao ?_⟩
       ·omega
       simp only[go_sem];try omega
     ·have:k=d.sigs.length:=by omega
      subst this;rw[eo] at Y;refine Ac 5 fun g4 b7=>?_;simp only[go_sem,b];refine ah (Aj (Aq (aY (Aa fun _ aK=>Aa fun _ aL=>Ac 1 fun _ _=>?_))));simp only[go_sem];refine aL (Ai ?_);refine Ay (fun m s=>∃ k,k≤d.vars.length∧m=d.vars.length - k∧(d.vars.take k).all nmOk=true∧Le { env:=[(1,.ptr ⟨S,1,0⟩ 0),(4,dN k)],σ:=[(⟨S,1,0⟩,.box 48 (deC d))] } s) d.vars.length ?_ ?_
      ·refine ⟨0,dX _,rfl,rfl,Ao ?_⟩;simp only[go_sem];trivial
      ·rintro m s ⟨k,hk,rfl,a7,L⟩;refine Az L ?_;clear L;refine Aa fun _ aM=>Aa fun _ aj=>?_;by_cases b:k < d.vars.length
       ·have a8:(d.vars.take (k + 1)).all nmOk=nmOk d.vars[k]:=by
         rw[ep,dO b,gu,a7];simp
        have j:=dP b;have aq:d.vars[k].size≤9223372036854775807:=by have:=bb _ j; omega
        refine Ac 5 fun g9 b8=>?_;simp only[go_sem,b];refine aj (Al (Ae (aM (Aa fun _ aN=>Ai (Aa fun _ ak=>Am fun _ _ _ _ M am=>Af 5 M ?_)))));simp only[go_sem,getM b];cases u:nmOk d.vars[k] with
        | false =>
         have b5:d.vars.all nmOk=false:=by
          rw[fH];exact ⟨_,j,by rw[u]; decide⟩
         refine Ak M (CG d.vars[k] aq _ _) ?_;refine Ad 1 M ?_;simp only[go_sem,u];refine am (ak (Al (Aa fun _ aP=>Ac 1 fun _ _=>?_)));simp only[go_sem];refine aP (Ah (Ag ?_));simp only[go_sem];exact Co.of_eq (by simp only[Cd,y,B,H,Y,b5,fc,fN])
        | true =>
         refine Ak M (CG d.vars[k] aq _ _) ?_;refine Ad 1 M ?_;simp only[go_sem,u];refine am (ak (Aj (Ae (aN (Ac 3 fun _ _=>?_)))));simp only[go_sem];try simp (disch:=omega) only[Au]
         refine ⟨_,?_,k + 1,b,rfl,by rw[a8,u],Ao ?_⟩
         ·omega
         simp only[go_sem];try omega
       ·have:k=d.vars.length:=by omega
        subst this;rw[eo] at a7;refine Ac 5 fun g9 b8=>?_;simp only[go_sem,b];refine aj (Aj (Aq (aK (Aa fun _ aQ=>Aa fun _ al=>?_))));have i:Cd d=DQ d:=by
         unfold Cd;rw[y,B,H,Y,a7]
         rfl
        by_cases o:d.kind=3
        ·refine Ac 3 fun aD b6=>?_;simp only[go_sem,o];refine al (Al (Aa fun _ T=>Am fun _ _ _ _ e X=>Af 2 e ?_));simp only[go_sem];cases C:nmOk d.recv with
         | false =>
          refine AA e rfl rfl rfl (CG d.recv (by omega) _ _) (CoL.refl _) ?_;refine Ad 25 e ?_;simp only[go_sem,C];try simp (disch:=omega) only[Au,Ba,dZ,ed]
          refine X (T (Ah (Ag ?_)));simp only[go_sem];exact Co.of_eq (by rw[i]; simp[DQ,IQ,o,C])
         | true =>
          by_cases J:(d.formals.length:Int) + d.fields.length + d.sigs.length=0
          ·have w:=eq_true J;refine AA e rfl rfl rfl (CG d.recv (by omega) _ _) (CoL.refl _) ?_;refine Af 17 e ?_;simp only[go_sem,C];try simp (disch:=omega) only[Au]
           try simp only[go_sem,w]
           try simp (disch:=omega) only[Au,Ba,dZ,ed]
           cases R:DH d.sig with
           | false =>
            refine Ak e (F2 _ Z w8.1 w8.2 w5 _ _) ?_;refine Ad 7 e ?_;simp only[go_sem,R];refine X (T (Ah (Ag ?_)));simp only[go_sem];exact Co.of_eq (by rw[i]; simp[DQ,IQ,o,C,J,R])
           | true =>
            refine Ak e (F2 _ Z w8.1 w8.2 w5 _ _) ?_;refine Af 4 e ?_;simp only[go_sem,R];refine Ak e (Lw _ (smEx.ok _ O) w6 _ _) ?_;refine Ad 2 e ?_;simp only[go_sem];refine X (T (Ah (Ag ?_)));simp only[go_sem];exact Co.of_eq (by rw[i]; simp[DQ,IQ,o,C,J,R])
          ·have w:=eq_false J;refine AA e rfl rfl rfl (CG d.recv (by omega) _ _) (CoL.refl _) ?_;refine Ad 25 e ?_;simp only[go_sem,C];try simp (disch:=omega) only[Au]
           try simp only[go_sem,w]
           try simp (disch:=omega) only[Au,Ba,dZ,ed]
           refine X (T (Ah (Ag ?_)));simp only[go_sem];exact Co.of_eq (by rw[i]; simp[DQ,IQ,o,C,J])
        ·have r3:(d.kind=3)=False:=eq_false o;refine Ac 3 fun aD b6=>?_;simp only[go_sem,r3];refine al (Aj (Ae (aQ (Aa fun _ K=>?_))));have ae:Co (.agg [dI 0,.val (.string ByteArray.empty),.val (.string ByteArray.empty),.val (.slice none 0 0),dI 0,.val (.slice none 0 0),.val (.slice none 0 0),dI 0]) (AK Cb):=by
          rw[El];exact .agg (.cons (.refl _) (.cons (.refl _) (.cons (.refl _) (.cons (.nil _) (.cons (.refl _) (.cons (.nil _) (.cons (.nil _) (.cons (.refl _) .nil))))))))
         by_cases p:d.recv=(⟨#[]⟩:ByteArray)
         ·have m1:=eq_true p;by_cases n2:(d.vars.length:Int)=0
          ·have m2:=eq_true n2;have A:d.vars=[]:=ex (by omega);refine Am fun af ao _ _ v a6=>Af 13 v ?_;simp only[go_sem,m1,m2];cases z:DV false d.sig Bw with
           | false =>
            refine AA v rfl rfl rfl (II false d.sig Bw Z.ok _ _) (.cons (.refl _) (.cons S9 (.cons (.refl _) .nil))) ?_;refine Ad 8 v ?_;simp only[go_sem,z];refine a6 (K (Aa fun _ aR=>Ac 24 fun D F=>?_));simp only[go_sem];refine aR (Ah (Ag ?_));simp only[go_sem];exact Co.of_eq (by rw[i]; simp[DQ,GI,o,p,A,z])
           | true =>
            refine AA v rfl rfl rfl (II false d.sig Bw Z.ok _ _) (.cons (.refl _) (.cons S9 (.cons (.refl _) .nil))) ?_;refine Af 5 v ?_;simp only[go_sem,z];cases G:Ic d.body with
            | false =>
             refine AA v rfl rfl rfl (same05z d.body (smEx.ok _ O) ((Bd _).1 O).2.2.1.1 _ _) (.cons (.refl _) (.cons ae .nil)) ?_;refine Ad 2 v ?_;simp only[go_sem,G];refine a6 (K (Aa fun _ aS=>Ac 24 fun D F=>?_));simp only[go_sem];refine aS (Ah (Ag ?_));simp only[go_sem];exact Co.of_eq (by rw[i]; simp[DQ,GI,o,p,A,z,G])
            | true =>
             refine AA v rfl rfl rfl (same05z d.body (smEx.ok _ O) ((Bd _).1 O).2.2.1.1 _ _) (.cons (.refl _) (.cons ae .nil)) ?_;refine Ad 2 v ?_;simp only[go_sem,G];refine a6 (K (Aa fun _ U=>?_));by_cases P:d.kind=1
             ·have Q:=eq_true P;by_cases s1:(d.sigs.length:Int)=0
              ·have t1:=eq_true s1;have u1:d.sigs=[]:=ex (by omega);refine Ac 24 fun D F=>?_;simp only[go_sem,Q,t1];refine U (Ah (Ag ?_));simp only[go_sem];exact Co.of_eq (by rw[i]; simp[DQ,GI,p,A,z,G,P,u1])
              ·have t1:=eq_false s1;have w:(d.kind=2)=False:=eq_false (by omega);have u1:¬ d.sigs=[]:=fun h=>by rw[h] at s1; exact s1 rfl
               refine Ac 24 fun D F=>?_;simp only[go_sem,Q,t1,w];refine U (Ah (Ag ?_));simp only[go_sem];exact Co.of_eq (by rw[i]; simp[DQ,GI,p,A,z,G,P,u1])
             ·have Q:=eq_false P;by_cases q2:d.kind=2
              ·have w:=eq_true q2;refine Ac 24 fun D F=>?_;simp only[go_sem,Q,w];refine U (Ah (Ag ?_));simp only[go_sem];exact Co.of_eq (by rw[i]; simp[DQ,GI,p,A,z,G,q2])
              ·have w:=eq_false q2;refine Ac 24 fun D F=>?_;simp only[go_sem,Q,w];refine U (Ah (Ag ?_));simp only[go_sem];exact Co.of_eq (by rw[i]; simp[DQ,GI,o,p,A,z,G,P,q2])
          ·have m2:=eq_false n2;have A:¬ d.vars=[]:=fun h=>by rw[h] at n2; exact n2 rfl
           refine Ac 22 fun af ao=>?_;simp only[go_sem,m1,m2];refine K (Aa fun _ aT=>Ac 24 fun D F=>?_);simp only[go_sem];refine aT (Ah (Ag ?_));simp only[go_sem];exact Co.of_eq (by rw[i]; simp[DQ,GI,o,p,A])
         ·have m1:=eq_false p;refine Ac 22 fun af ao=>?_;simp only[go_sem,m1];refine K (Aa fun _ aU=>Ac 24 fun D F=>?_);simp only[go_sem];refine aU (Ah (Ag ?_));simp only[go_sem];exact Co.of_eq (by rw[i]; simp[DQ,GI,o,p])
noncomputable def BY (p:Prg):Bool:=p.decls.all Cd && BI p.main
theorem Qt {α:Type} (w:α→Nat) {a:α}:∀ {l:List α},a∈l→w a≤(l.map w).sum
 | [],h=>by cases h
 | x :: l,h=>by
  rw[eM,fV];rcases eq.1 h with rfl | h
  ·omega
  ·have:=Qt w h; omega
theorem IR {p:Prg} {d:Dec} (h:d∈p.decls):wN (Bl d)≤wN (Bx p):=by
 unfold Bx;rw[AW,Ej];have:=Qt (fun a=>wN (Bl a)) h;omega
set_option maxRecDepth 100000 in
theorem Ly (p:Prg) (hp:smPr p) (hw:wN (Bx p)≤1000000) (g q:Nat):ACalls E 18 [AZ p] [] g q (dB (BY p)) []:=by
 obtain ⟨⟨I,o⟩,F⟩:=hp;have G:wN (CA p.main)≤1000000:=by
  unfold Bx at hw;rw[AW] at hw;omega
 refine Ax 21 Tryz.call18 Tryz.func18 ?_;simp only[go_sem];refine Aa fun _ u=>Ac 2 fun h _=>?_;simp only[go_sem];refine u (Aa fun _ v=>Aa fun _ w=>Ac 1 fun _ _=>?_);simp only[go_sem];refine w (Ai ?_);refine Ay (fun m s=>∃ k,k≤p.decls.length∧m=p.decls.length - k∧(p.decls.take k).all Cd=true∧Le { env:=[(1,.ptr ⟨h,1,0⟩ 0),(3,dN k)],σ:=[(⟨h,1,0⟩,.box 30 (prC p))] } s) p.decls.length ?_ ?_
 ·refine ⟨0,dX _,rfl,rfl,Ao ?_⟩;simp only[go_sem];trivial
 ·rintro m s ⟨k,H,rfl,e,n⟩;refine Az n ?_;clear n;refine Aa fun _ x=>Aa fun _ i=>?_;by_cases a:k < p.decls.length
  ·have D:(p.decls.take (k + 1)).all Cd=Cd p.decls[k]:=by
    rw[ep,dO a,gu,e];simp
   have b:=dP a;refine Ac 5 fun t C=>?_;simp only[go_sem,a];refine i (Al (Ae (x (Aa fun _ y=>Ai (Aa fun _ j=>Am fun _ _ _ _ c l=>Af 5 c ?_)))));simp only[go_sem,getM a];cases d:Cd p.decls[k] with
   | false =>
    have r:p.decls.all Cd=false:=by
     rw[fH];exact ⟨_,b,by rw[d]; decide⟩
    refine Ak c (Lx _ (o _ b) (ef (IR b) hw) _ _) ?_;refine Ad 1 c ?_;simp only[go_sem,d];refine l (j (Al (Aa fun _ z=>Ac 1 fun _ _=>?_)));simp only[go_sem];refine z (Ah (Ag ?_));simp only[go_sem];exact Co.of_eq (by unfold BY; rw[r]; rfl)
   | true =>
    refine Ak c (Lx _ (o _ b) (ef (IR b) hw) _ _) ?_;refine Ad 1 c ?_;simp only[go_sem,d];refine l (j (Aj (Ae (y (Ac 3 fun _ _=>?_)))));simp only[go_sem];try simp (disch:=omega) only[Au]
    refine ⟨_,?_,k + 1,a,rfl,by rw[D,d],Ao ?_⟩
    ·omega
    simp only[go_sem];try omega
  ·have:k=p.decls.length:=by omega
   subst this;rw[eo] at e;refine Ac 5 fun t C=>?_;simp only[go_sem,a];refine i (Aj (Aq (v (Aa fun _ A=>Am fun _ _ _ _ f B=>Af 2 f ?_))));simp only[go_sem];refine Ak f (Lw _ (smEx.ok _ F) G _ _) ?_;refine Ad 1 f ?_;simp only[go_sem];refine B (A (Ah (Ag ?_)));simp only[go_sem];exact Co.of_eq (by unfold BY; rw[e]; rfl)
theorem EF:∀ l:List Ex,BO 8 (l.map AK):=fun l=>Du 8 AK l fun _=>by rw[El]; exact ⟨rfl,rfl⟩
theorem IS (c:List Ex) (i:Nat):(Be (c.take i)).length≤(Be c).length:=by
 have:=congrArg (fun l=>(Be l).length) (fC i c);simp only[Gz,dQ] at this;omega
theorem Fd (t:Ex):0 < (AB t).length:=by rw[BC]; simp
theorem F3 (c:List Ex) (i:Nat) (h:i < c.length):(AB c[i]).length≤(Be c).length:=by
 have a:=DL c i h;have b:=IS c (i + 1);rw[a,dQ] at b;omega
set_option maxRecDepth 100000 in
theorem DB:∀ t:Ex,okEx t→(AB t).length≤1000000→∀ g d,ACalls E 28 [AK t] [] g d (slEx (AB t)) []:=by
 intro t;induction t using Ex.ind with
 | h t ih =>
 intro U A g d;have B:=(EW t).1 U;have w:=BC t;have Y:(Be t.kids).length + 1≤1000000:=by rw[w] at A; simpa using A
 refine Ax 23 Tryz.call28 Tryz.func28 ?_;simp only[go_sem];refine Aa fun _ H=>Ac 2 fun e _=>?_;simp only[go_sem];refine H (Aa fun _ K=>Ac 3 fun _ _=>?_);simp only[go_sem];refine K (Aa fun _ y=>Aa fun _ L=>Ac 1 fun _ _=>?_);simp only[go_sem];refine L (Ai ?_);refine Ay (fun m s=>∃ k,k≤t.kids.length∧m=t.kids.length - k∧((k=0∧Le { env:=[(1,.ptr ⟨e,1,0⟩ 0),(4,dN 0),(3,.sl true [AK t])],σ:=[(⟨e,1,0⟩,.box 28 (exC t))] } s) ∨
   ∃ a i,a≠e∧Le { env:=[(1,.ptr ⟨e,1,0⟩ 0),(4,dN k),(3,.own ⟨a,i,0⟩ (1 + (Be (t.kids.take k)).length))],σ:=[(⟨e,1,0⟩,.box 28 (exC t)),(⟨a,i,0⟩,.arr 28 8 (AK t :: (Be (t.kids.take k)).map AK))] } s)) t.kids.length ?_ ?_
 ·refine ⟨0,dX _,rfl,.inl ⟨rfl,Ao ?_⟩⟩;simp only[go_sem];all_goals first|trivial|omega
 ·rintro m s ⟨k,X,rfl,⟨rfl,o⟩ | ⟨a,i,n,o⟩⟩
  ·refine Az o ?_;clear o;refine Aa fun _ M=>Aa fun _ z=>?_;by_cases b:0 < t.kids.length
   ·have v : (((0:Nat):Int) < (t.kids.length:Int))=True:=eq_true (by omega);have Q:=F3 t.kids 0 b;have V:=Fd t.kids[0];refine Ac 5 fun p r=>?_;simp only[go_sem,v];refine z (Al (Ae (M (Aa fun _ N=>Ai (Am fun j u W C c q=>Af 6 c ?_)))));simp only[go_sem,getM b];have f:j≠e:=Ar u 1 0 (by simp[go_sem]);refine AA c rfl rfl rfl (ih _ (dP b) (B.2.2.2.2 _ (dP b)) (by omega) _ _) (CoL.refl _) ?_;refine HE c rfl rfl rfl rfl rfl es26 sz28 by28 ze28 rfl (by decide) ?_;simp only[go_sem,EF];refine ⟨V,⟨by omega,by omega⟩,?_⟩;refine Ad 1 c ?_;simp only[go_sem]
    refine q (N (Ac 3 fun D S=>?_));simp only[go_sem];try simp (disch:=omega) only[Au]
    refine ⟨_,?_,1,b,rfl,.inr ⟨j,21,f,Ao ?_⟩⟩
    ·omega
    have l:=DL t.kids 0 b;rw[gG] at l;have G:Be (t.kids.take 1)=AB t.kids[0]:=l;simp only[go_sem,G,f,f.symm];all_goals first|trivial|omega
   ·have h0:t.kids=[]:=ex (by omega);have v : (((0:Nat):Int) < (t.kids.length:Int))=False:=eq_false (by omega);refine Ac 5 fun p r=>?_;simp only[go_sem,v];refine z (Aj (Aq (y (Aa fun _ O=>Ac 2 fun F T=>?_))));simp only[go_sem];refine O (Ah (Ag ?_));simp only[go_sem];exact by rw[w,h0]; exact Co.inexact _ _
  ·refine Az o ?_;clear o;refine Aa fun _ P=>Aa fun _ x=>?_;by_cases b:k < t.kids.length
   ·have Q:=F3 t.kids k b;have R:=IS t.kids (k + 1);have l:=DL t.kids k b;rw[l,dQ] at R;refine Ac 5 fun p r=>?_;simp only[go_sem,b,n];refine x (Al (Ae (P (Aa fun _ I=>Ai (Am fun j u W C c q=>Af 6 c ?_)))));simp only[go_sem,getM b,n];refine AA c rfl rfl rfl (ih _ (dP b) (B.2.2.2.2 _ (dP b)) (by omega) _ _) (CoL.refl _) ?_;refine AG c rfl rfl rfl rfl rfl es26 sz28 by28 ze28 rfl (by decide) ?_;simp only[go_sem,EF,n.symm];first | refine ⟨⟨by omega,by omega⟩,?_⟩ | skip
    have f:j≠e:=Ar u 1 0 (by simp[go_sem]);refine Ad 1 c ?_;simp only[go_sem];refine q (I (Ac 3 fun D S=>?_));simp only[go_sem];try simp (disch:=omega) only[Au]
    refine ⟨_,?_,k + 1,b,rfl,.inr ⟨j,21,f,Ao ?_⟩⟩
    ·omega
    simp only[go_sem,l,fU,f,f.symm];all_goals first|trivial|omega
   ·have:k=t.kids.length:=by omega
    subst this;refine Ac 5 fun p r=>?_;simp only[go_sem,b,n];refine x (Aj (Aq (y (Aa fun _ J=>Ac 2 fun F T=>?_))));simp only[go_sem];refine J (Ah ?_);refine AY ⟨a,i,0⟩ ?_;simp only[go_sem,n.symm];refine Ag ?_;simp only[go_sem];exact Co.of_eq (by rw[w]; rfl)
def CN (x:Ex):List Ty:=x.targs++(if x.kind=3∨x.kind=5 then [x.type] else [])
def Bo (e:Ex):List Ty:=(AB e).flatMap CN
def Cm (d:Dec):List Ty:=d.formals.map (·.bound)++d.fields.map (·.type)++d.sigs.flatMap AP++(if d.kind=3 then AP d.sig++Bo d.body else [])
def tyPr (p:Prg):List Ty:=p.decls.flatMap Cm++Bo p.main
theorem DM:∀ l:List Ty,BO 3 (l.map AC):=fun l=>Du 3 AC l fun _=>by rw[C0]; exact ⟨rfl,rfl⟩
theorem PD {α β:Type} (f:α→β) (g:β→D) {l:List α} {k:Nat} (h:k < l.length):((l.take (k + 1)).map f).map g=((l.take k).map f).map g++[g (f l[k])]:=by
 rw[ep,dO h,eC,eC]
 rfl
set_option maxRecDepth 100000 in
theorem PE (s:Sig) (h1:s.formals.length≤1000000) (h2:s.params.length≤1000000) (g d:Nat):ACalls E 53 [AH s] [] g d (slTy (AP s)) []:=by
 refine Ax 43 Tryz.call53 Tryz.func53 ?_;simp only[go_sem];refine Aa fun _ A=>Ac 2 fun e _=>?_;simp only[go_sem];refine A (Aa fun _ F=>Ac 1 fun _ _=>?_);simp only[go_sem];refine F (Aa fun _ G=>Aa fun _ H=>Ac 1 fun _ _=>?_);simp only[go_sem];refine H (Ai ?_);refine Bh 3 25 3 rfl fun u T=>?_;have j:u≠e:=Ar T 1 0 (by simp[go_sem]);refine Ay (fun m h=>∃ k a i,k≤s.formals.length∧m=s.formals.length - k∧a≠e ∧
   Le { env:=[(1,.ptr ⟨e,1,0⟩ 0),(4,dN k),(3,.own ⟨a,i,0⟩ k)],σ:=[(⟨e,1,0⟩,.box 46 (siC s)),(⟨a,i,0⟩,.arr 25 3 (((s.formals.take k).map (·.bound)).map AC))] } h) s.formals.length ?_ ?_
 ·refine ⟨0,u,0,dX _,rfl,j,Ao ?_⟩;simp only[go_sem,j,j.symm];all_goals first|trivial|omega
 ·rintro m h ⟨k,a,i,U,rfl,b,f⟩;refine Az f ?_;clear f;refine Aa fun _ I=>Aa fun _ w=>?_;by_cases c:k < s.formals.length
  ·refine Ac 5 fun y P=>?_;simp only[go_sem,c,b];refine w (Al (Ae (I (Aa fun _ J=>Ai (Am fun r Q _ _ p N=>Af 8 p ?_)))));simp only[go_sem,getM c,b];refine AG p rfl rfl rfl rfl rfl es23 sz25 by25 ze25 rfl (by decide) ?_;simp only[go_sem,b.symm,eG (ga c)];first | refine ⟨⟨by omega,by omega⟩,?_⟩ | skip
   have l:r≠e:=Ar Q 1 0 (by simp[go_sem]);refine Ad 1 p ?_;simp only[go_sem];refine N (J (Ac 3 fun _ _=>?_));simp only[go_sem];try simp (disch:=omega) only[Au]
   refine ⟨_,?_,k + 1,r,21,c,rfl,l,Ao ?_⟩
   ·omega
   simp only[go_sem,PD _ _ c,l,l.symm];all_goals first|trivial|omega
  ·have:k=s.formals.length:=by omega
   subst this;refine Ac 5 fun y P=>?_;simp only[go_sem,c,b];refine w (Aj (Aq (G (Aa fun _ K=>Aa fun _ L=>Ac 1 fun _ _=>?_))));simp only[go_sem];refine L (Ai ?_);refine Ay (fun m h=>∃ k a i,k≤s.params.length∧m=s.params.length - k∧a≠e ∧
     Le { env:=[(1,.ptr ⟨e,1,0⟩ 0),(5,dN k),(3,.own ⟨a,i,0⟩ (s.formals.length + k))],σ:=[(⟨e,1,0⟩,.box 46 (siC s)),(⟨a,i,0⟩,.arr 25 3 ((s.formals.map (·.bound)).map AC++((s.params.take k).map (·.type)).map AC))] } h) s.params.length ?_ ?_
   ·refine ⟨0,a,i,dX _,rfl,b,Ao ?_⟩;simp only[go_sem,b,b.symm];all_goals first|trivial|omega
   ·rintro m h ⟨k,a,i,U,rfl,b,f⟩;refine Az f ?_;clear f;refine Aa fun _ B=>Aa fun _ v=>?_;by_cases c:k < s.params.length
    ·refine Ac 5 fun z R=>?_;simp only[go_sem,c,b];refine v (Al (Ae (B (Aa fun _ C=>Ai (Am fun t S _ _ q O=>Af 8 q ?_)))));simp only[go_sem,getM c,b];refine AG q rfl rfl rfl rfl rfl es23 sz25 by25 ze25 rfl (by decide) ?_;simp only[go_sem,b.symm,eG (ga c)];first | refine ⟨⟨by omega,by omega⟩,?_⟩ | skip
     have n:t≠e:=Ar S 1 0 (by simp[go_sem]);refine Ad 1 q ?_;simp only[go_sem];refine O (C (Ac 3 fun _ _=>?_));simp only[go_sem];try simp (disch:=omega) only[Au]
     refine ⟨_,?_,k + 1,t,37,c,rfl,n,Ao ?_⟩
     ·omega
     simp only[go_sem,PD _ _ c,eE,fU,n,n.symm];all_goals first|trivial|omega
    ·have:k=s.params.length:=by omega
     subst this;refine Ac 5 fun z R=>?_;simp only[go_sem,c,b];refine v (Aj (Aq (K (Aa fun _ D=>Am fun x _ _ _ o M=>Af 4 o ?_))));simp only[go_sem,b];refine AG o rfl rfl rfl rfl rfl es23 sz25 by25 ze25 rfl (by decide) ?_;simp only[go_sem,b.symm];first | refine ⟨⟨by omega,by omega⟩,?_⟩ | skip
     refine Ad 1 o ?_;simp only[go_sem];refine M (D (Ah ?_));refine AY ⟨x,42,0⟩ ?_;simp only[go_sem];refine Ag ?_;simp only[go_sem];exact Co.of_eq (by simp[AP])
theorem Et {α β:Type} (f:α→List β) {l:List α} {k:Nat} (h:k < l.length):(l.take (k + 1)).flatMap f=(l.take k).flatMap f++f l[k]:=by
 rw[ep,dO h,gy];simp
theorem JY {α β:Type} (f:α→List β) (l:List α) (k:Nat):((l.take k).flatMap f).length≤(l.flatMap f).length:=by
 have:=congrArg (fun l=>(l.flatMap f).length) (fC k l);simp only[gy,dQ] at this;omega
theorem Ov {α β:Type} (f:α→List β) {l:List α} {k:Nat} (h:k < l.length):((l.take k).flatMap f).length + (f l[k]).length≤(l.flatMap f).length:=by
 have b:=Et f h;have a:=JY f l (k + 1);rw[b,dQ] at a;exact a
set_option maxRecDepth 100000 in
theorem NN (e:Ex) (he:okEx e) (hl:(AB e).length≤1000000) (hb:(Bo e).length≤1000000) (g d:Nat):ACalls E 54 [AK e] [] g d (slTy (Bo e)) []:=by
 refine Ax 44 Tryz.call54 Tryz.func54 ?_;simp only[go_sem];refine Aa fun _ T=>Ac 2 fun Q _=>?_;simp only[go_sem];refine T (Aa fun _ V=>Ac 1 fun _ _=>?_);simp only[go_sem];refine V (Aa fun _ W=>?_);refine Bh 3 25 3 rfl fun D a6=>?_;have N:D≠Q:=Ar a6 1 0 (by simp[go_sem]);refine Am fun _ _ _ _ y a1=>Af 1 y ?_;simp only[go_sem,N];refine Ak y (DB e he hl _ _) ?_;refine Ad 1 y ?_;simp only[go_sem];refine a1 (W (Aa fun _ X=>Aa fun _ Y=>?_));generalize a7:AB e=l at *;have G:Bo e=l.flatMap CN:=by rw[← a7]; rfl
 rw[G] at hb;refine Ac 1 fun _ _=>?_;simp only[go_sem];refine Y (Ai ?_);refine Ay (fun m O=>∃ k a i L,k≤l.length∧m=l.length - k∧L=(l.take k).flatMap CN ∧
   Le { env:=[(3,.own ⟨a,i,0⟩ L.length),(4,slEx l),(5,dN k)],σ:=[(⟨a,i,0⟩,.arr 25 3 (L.map AC))] } O) l.length ?_ ?_
 ·refine ⟨0,D,0,[],dX _,rfl,by simp,Ao ?_⟩;simp only[go_sem,N.symm];all_goals first|trivial|omega
 ·rintro m O ⟨k,a,i,L,hk,rfl,v,M⟩;refine Az M ?_;clear M;refine Aa fun _ Z=>Aa fun _ F=>?_;by_cases b:k < l.length
  ·have a3:=Ov CN b;have H:=Et CN b;rw[← v] at a3 H;refine Ac 4 fun R a4=>?_;simp only[go_sem,b];refine F (Al (Ae (Z (Aa fun _ t=>Ai (Aa fun _ a0=>?_)))));have K:(CN l[k]).length=l[k].targs.length + (if l[k].kind=3∨l[k].kind=5 then [l[k].type] else []).length:=by simp[CN]
   have w:(l.take (k + 1)).flatMap CN=L++(l[k].targs++(if l[k].kind=3∨l[k].kind=5 then [l[k].type] else [])):=H;have n:=getM (f:=AK) b;generalize l[k]=x at *;refine Am fun S _ _ _ z a2=>Af 6 z ?_;simp only[go_sem,n];refine AG z rfl rfl rfl rfl rfl es23 sz25 by25 ze25 rfl (by decide) ?_;simp only[go_sem,DM];first | refine ⟨⟨by omega,by omega⟩,?_⟩ | skip
   refine Ad 1 z ?_;simp only[go_sem];refine a2 (a0 (Aa fun _ s=>?_));by_cases o:x.kind=3
   ·have q:=eq_true o;have c:(if x.kind=3∨x.kind=5 then [x.type] else [])=[x.type]:=if_pos (.inl o);rw[c] at K;refine Ac 14 fun C J=>?_;simp only[go_sem,n,q];refine s (Al (Am fun r a5 a8 P j u=>Af 7 j ?_));simp only[go_sem,n];refine AG j rfl rfl rfl rfl rfl es23 sz25 by25 ze25 rfl (by decide) ?_;simp only[go_sem];first | refine ⟨⟨by omega,by omega⟩,?_⟩ | skip
    refine Ad 1 j ?_;simp only[go_sem];refine u (t (Ac 3 fun B I=>?_));simp only[go_sem];try simp (disch:=omega) only[Au]
    refine ⟨_,?_,k + 1,r,42,_,b,rfl,w.symm,Ao ?_⟩
    ·omega
    simp only[go_sem,c,eE,fU];all_goals first|trivial|omega
   ·have q:=eq_false o;by_cases p:x.kind=5
    ·have A:=eq_true p;have c:(if x.kind=3∨x.kind=5 then [x.type] else [])=[x.type]:=if_pos (.inr p);rw[c] at K;refine Ac 14 fun C J=>?_;simp only[go_sem,n,q,A];refine s (Al (Am fun r a5 a8 P j u=>Af 7 j ?_));simp only[go_sem,n];refine AG j rfl rfl rfl rfl rfl es23 sz25 by25 ze25 rfl (by decide) ?_;simp only[go_sem];first | refine ⟨⟨by omega,by omega⟩,?_⟩ | skip
     refine Ad 1 j ?_;simp only[go_sem];refine u (t (Ac 3 fun B I=>?_));simp only[go_sem];try simp (disch:=omega) only[Au]
     refine ⟨_,?_,k + 1,r,42,_,b,rfl,w.symm,Ao ?_⟩
     ·omega
     simp only[go_sem,c,eE,fU];all_goals first|trivial|omega
    ·have A:=eq_false p;have c:(if x.kind=3∨x.kind=5 then [x.type] else [])=[]:=if_neg (fun h=>h.elim o p);refine Ac 14 fun C J=>?_;simp only[go_sem,n,q,A];refine s (Aj (Ae (t (Ac 3 fun B I=>?_))));simp only[go_sem];try simp (disch:=omega) only[Au]
     refine ⟨_,?_,k + 1,S,20,_,b,rfl,w.symm,Ao ?_⟩
     ·omega
     simp only[go_sem,c];all_goals first|trivial|omega
  ·have:k=l.length:=by omega
   subst this;rw[eo] at v;refine Ac 4 fun R a4=>?_;simp only[go_sem,b];refine F (Aj (Aq (X (Aa fun _ U=>Ac 2 fun _ _=>?_))));simp only[go_sem];refine U (Ah ?_);refine AY ⟨a,i,0⟩ ?_;simp only[go_sem];refine Ag ?_;simp only[go_sem];exact Co.of_eq (by rw[G,← v])
end Go.Proofs.T
