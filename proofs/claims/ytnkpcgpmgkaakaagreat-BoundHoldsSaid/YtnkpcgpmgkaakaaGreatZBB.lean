/- A part of the proof: ZBB. -/
import Derived.Test.YtnkpcgpmgkaakaaGreatZBA
namespace Go.Proofs.T
open Go Go.Ab Go.RowKit
theorem Qa:∀ t:Ty,strip t=Cnt.bare t:=by
 refine Ty.ind fun t ih=>?_;cases t with
 | mk n a q =>
  rw[strip,Cnt.bare]
  congr 1
  rw[Cnt.I7];have:∀ l:List Ty,(∀ x∈l,strip x=Cnt.bare x)→strips l=l.map Cnt.bare:=by
   intro l;induction l with
   | nil=>intro _; rfl
   | cons x r c =>
    intro h;rw[strips,eM,h x dY,c fun y b=>h y (ea _ b)]
  exact this a ih
theorem Lq (t u:Ty):BK t u=0↔Cnt.bare t=Cnt.bare u:=by rw[Re,Qa,Qa]
def keyC (c:Cal):Ty × Str × List Ty:=(Cnt.bare c.on,c.name,c.targs.map Cnt.bare)
theorem WX (a b:Cal):D8 a b=0↔keyC a=keyC b:=by
 have e:BK (.mk ByteArray.empty a.targs 0) (.mk ByteArray.empty b.targs 0)=0↔a.targs.map Cnt.bare=b.targs.map Cnt.bare:=by
  rw[Lq,Cnt.bare,Cnt.bare,Cnt.I7,Cnt.I7];simp
 unfold D8 keyC;simp only[Prod.mk.injEq];split
 ·rename_i c;split
  ·rename_i d;rw[e];exact ⟨fun h=>⟨(Lq _ _).1 c,CE.1 d,h⟩,fun h=>h.2.2⟩
  ·rename_i d;exact ⟨fun h=>absurd h d,fun h=>absurd (CE.2 h.2.1) d⟩
 ·rename_i c;exact ⟨fun h=>absurd h c,fun h=>absurd ((Lq _ _).2 h.1) c⟩
theorem Lr {α:Type} {cmp:α→α→Int} {x:α}:∀ (done:Bool) (l m:List α),CB cmp x done l=some m→(∀ y∈l,cmp x y≠0)∧m.Perm (if done=true then l else x :: l)
 | done,[],m,h=>by
  unfold CB at h;simp only[Option.some.injEq] at h;subst h;exact ⟨fun y hy=>(nomatch hy),List.Perm.refl _⟩
 | done,y :: r,m,h=>by
  unfold CB at h;split at h
  ·cases h
  ·rename_i h0;split at h
   ·rename_i hc;obtain ⟨m',h1,rfl⟩:=ee.1 h;obtain ⟨a,b⟩:=Lr true r m' h1;rw[if_pos rfl] at b;refine ⟨fun z hz=>?_,?_⟩
    ·rcases eq.1 hz with rfl | hz
     ·exact h0
     ·exact a z hz
    ·rw[hc.2,if_neg (by decide)];exact (b.cons y).cons x
   ·obtain ⟨m',h1,rfl⟩:=ee.1 h;obtain ⟨a,b⟩:=Lr done r m' h1;refine ⟨fun z hz=>?_,?_⟩
    ·rcases eq.1 hz with rfl | hz
     ·exact h0
     ·exact a z hz
    ·cases done with
     | true=>rw[if_pos rfl] at b ⊢; exact b.cons y
     | false =>
      rw[if_neg (by decide)] at b ⊢;exact (b.cons y).trans (List.Perm.swap x y r)
theorem Qb {α β:Type} {cmp:α→α→Int} {k:α→β} (hk:∀ a b,cmp a b=0↔k a=k b) {l:List α} (h:(l.map k).Nodup) (x:α):((putG cmp l x).map k).Nodup:=by
 unfold putG;cases d:CB cmp x false l with
 | none=>exact h
 | some m =>
  obtain ⟨a,b⟩:=Lr false l m d;rw[if_neg (by decide)] at b;rw[eX,(b.map k).nodup_iff,eM,fA];refine ⟨fun e=>?_,h⟩;obtain ⟨y,f,c⟩:=eh.1 e;exact a y f ((hk x y).2 c.symm)
structure Once (s:ISet):Prop where
 ty:(s.types.map Cnt.bare).Nodup
 ca:(s.calls.map keyC).Nodup
theorem Once.putT {s:ISet} (h:Once s) (x:Ty):Once (putT s x):=by
 unfold Go.Proofs.T.putT;split
 ·exact ⟨h.ty,h.ca⟩
 ·exact ⟨Qb Lq h.ty x,h.ca⟩
theorem Once.putC {s:ISet} (h:Once s) (x:Cal):Once (putC s x):=by
 unfold Go.Proofs.T.putC;split
 ·exact ⟨h.ty,h.ca⟩
 ·exact ⟨h.ty,Qb WX h.ca x⟩
theorem Once.lrg {s:ISet} (h:Once s) (b:Bool):Once { s with large:=b }:=⟨h.ty,h.ca⟩
theorem FB {α:Type} {f:ISet→α→ISet} (hf:∀ o a,Once o→Once (f o a)):∀ (l:List α) (s:ISet),Once s→Once (l.foldl f s)
 | [],_,h=>h
 | a :: l,_,h=>FB hf l _ (hf _ a h)
theorem Qc (c:Cx) (s:ISet) (x:Ex) (h:Once s):Once (need1 c s x):=by
 have a:Once (Dp s x):=by
  unfold Dp;split
  ·exact h.putT _
  ·exact h
 unfold need1;split
 ·cases x.kids with
  | nil=>exact a
  | cons k r =>
   show Once (GP (Dp s x) x (inf c k));generalize Dp s x=S at *;generalize inf c k=q;unfold GP;split
   ·exact a.lrg _
   ·exact ((a.lrg _).putT _).putC _
 ·exact a
theorem Up (p:Prg) (s:ISet) (h:Once s):Once (Eb p s):=by
 unfold Eb;refine FB (fun o x a=>?_) _ _ h;unfold FL;refine FB (fun o c a=>?_) _ _ ?_
 ·unfold CP;cases CL (Bq p [] x) c.name with
  | none=>exact a
  | some n =>
   simp only;split
   ·exact a
   ·split
    ·unfold FZ bdOf;generalize (Bq p [] x).getD n Bw=b;have d:Once (putT (b.params.foldl (putP b c.targs) o) (AD (b.formals.map (·.name)) c.targs b.result)):=(FB (f:=putP b c.targs) (fun o _ a=>a.putT _) b.params o a).putT _;cases GB p x c.name with
     | none=>exact d
     | some e=>exact FB (fun o _ a=>Qc _ _ _ a) _ _ d
    ·exact a
 ·unfold GQ;split
  ·exact FB (f:=putF) (fun o f a=>a.putT _) _ _ a
  ·exact a
theorem RR (p:Prg):∀ (f:Nat) (s r:ISet),Once s→GR p f s=some r→Once r
 | 0,_,_,_,h=>by cases h
 | f + 1,s,r,hs,h=>by
  rw[FM] at h;split at h
  ·cases h
  ·split at h
   ·split at h
    ·cases h
    ·cases h;exact Up p s hs
   ·exact RR p f _ r (Up p s hs) h
theorem Z7 {p:Prg} {s:ISet} (h:Fy p=some s):Once s :=
 RR p _ _ s (FB (fun _ _ ho=>Qc _ _ _ ho) _ _ ⟨by simp[FN],by simp[FN]⟩) h
theorem abr (M x y:Nat):min (min x M * min y M) M=min (x * y) M:=by
 by_cases j:x=0
 ·subst j; simp
 by_cases l:y=0
 ·subst l; simp
 have d:∀ a b:Nat,1≤b→M≤a→M≤a * b:=fun a b i h=>by
  have:=Nat.mul_le_mul h i;omega
 by_cases f:x≤M
 ·by_cases k:y≤M
  ·rw[Nat.min_eq_left f,Nat.min_eq_left k]
  ·have c:=d y x (by omega) (by omega);rw[gf] at c;have e:=d M x (by omega) (ec _);rw[gf] at e;rw[Nat.min_eq_left f,gI (by omega:M≤y),gI c,gI e]
 ·have c:=d x y (by omega) (by omega);rw[gI (by omega:M≤x),gI c];by_cases g:M=0
  ·subst g; simp
  ·have m:1≤min y M:=by omega
   exact gI (d M _ m (ec _))
def Sat (v:Int) (n:Nat):Prop:=v=((min n 4611686018427387903:Nat):Int)
theorem Sat.in_ {v:Int} {n:Nat} (h:Sat v n):inR v:=by unfold Sat at h; unfold inR; omega
theorem Sat.mul {a b:Int} {x y:Nat} (ha:Sat a x) (hb:Sat b y):Sat (mulS a b) (x * y):=by
 have h:=Km ha.in_ hb.in_;unfold Sat at *;have e:a * b=((min x 4611686018427387903 * min y 4611686018427387903:Nat):Int):=by rw[ha,hb,Int.natCast_mul]
 rw[h,e,← abr];generalize min x 4611686018427387903 * min y 4611686018427387903=z;split <;> omega
theorem Sat.add {a b:Int} {x y:Nat} (ha:Sat a x) (hb:Sat b y):Sat (Ec a b) (x + y):=by
 unfold Sat at *;unfold Ec;split <;> omega
theorem Sat.one:Sat 1 1:=by unfold Sat; omega
theorem Sat.nat {n:Nat} (h:n≤1000000):Sat (n:Int) n:=by unfold Sat; omega
theorem Sat.pow {a:Int} {x:Nat} (ha:Sat a x):∀ n,Sat (powS a n) (x ^ n)
 | 0=>by rw[powS,Nat.pow_zero]; exact Sat.one
 | n + 1=>by rw[powS,Nat.pow_succ]; exact (Sat.pow ha n).mul ha
theorem Sat.typ {d:Int} {x:Nat} (hd:Sat d x) (a:Nat):∀ h,Sat (typS d a h) (Cnt.cNum x a h)
 | 0=>by rw[typS,Cnt.cNum]; unfold Sat; omega
 | h + 1=>by rw[typS,Cnt.cNum]; exact hd.mul (((Sat.typ hd a h).add Sat.one).pow a)
theorem YI:∀ (l:List Dec) (n:Nat),n≤l.foldl foF n∧∀ d∈l,d.kind≠3→d.formals.length≤l.foldl foF n
 | [],n=>⟨ec _,fun d hd=>nomatch hd⟩
 | e :: l,n=>by
  obtain ⟨h1,h2⟩:=YI l (foF n e);have h3:n≤foF n e:=by unfold foF; split <;> omega
  refine ⟨ef h3 h1,fun d hd a=>?_⟩;rcases eq.1 hd with rfl | hd
  ·refine ef ?_ h1;unfold foF;rw[if_neg a];omega
  ·exact h2 d hd a
theorem VY:∀ (l:List Dec) (n:Nat),l.foldl dcF n=n + (l.filter fun d=>!decide (d.kind=3)).length
 | [],n=>rfl
 | e :: l,n=>by
  rw[fz,VY l,List.filter_cons];unfold dcF;by_cases h:e.kind=3
  ·simp[h]
  ·simp[h]; omega
def Hj (p:Prg):List Str:=(p.decls.filter fun d=>!decide (d.kind=3)).map (·.name)
theorem Vc (p:Prg):(Hj p).length=p.decls.foldl dcF 0:=by
 rw[VY,eN];simp[Hj]
theorem Nl {p:Prg} {R:Rnk p}:∀ (k:Nat) (t:Ty),Inv R t→Br t≤k→Cnt.Fit (Hj p) (p.decls.foldl foF 0) k t
 | 0,t,_,hd=>by have:=Yv t; omega
 | k + 1,t,hi,hd=>by
  have hi2:=hi;rw[Inv.iff] at hi2;obtain ⟨d,hdm,h1,h2,h3⟩:=Jz hi2.1;rw[← Ty.eta t];refine .mk (eh.2 ⟨d,fS.2 ⟨hdm,?_⟩,h2⟩) ?_ fun x hx=>Nl k x (hi2.2.2.1 x hx) ?_
  ·simp; omega
  ·rw[hi2.2.1,P9 h1];exact (YI p.decls 0).2 d hdm (by omega)
  ·have:=Jy hx;omega
theorem YJ:∀ (l:List Ex) (n:Nat),n≤l.foldl tgF n∧∀ z∈l,z.kind=2→z.targs.length≤l.foldl tgF n
 | [],n=>⟨ec _,fun d hd=>nomatch hd⟩
 | e :: l,n=>by
  obtain ⟨h1,h2⟩:=YJ l (tgF n e);have h3:n≤tgF n e:=by unfold tgF; split <;> omega
  refine ⟨ef h3 h1,fun d hd a=>?_⟩;rcases eq.1 hd with rfl | hd
  ·refine ef ?_ h1;unfold tgF;rw[if_pos a];omega
  ·exact h2 d hd a
theorem YK:∀ (l:List Ex) (ns:List Str),(∀ x∈ns,x∈l.foldl nmR ns)∧∀ z∈l,z.kind=2→z.name∈l.foldl nmR ns
 | [],ns=>⟨fun x hx=>hx,fun _ hd=>nomatch hd⟩
 | e :: l,ns=>by
  obtain ⟨h1,h2⟩:=YK l (nmR ns e);refine ⟨fun x hx=>h1 x ?_,fun z hz hk=>?_⟩
  ·unfold nmR;split
   ·exact (IU _ _ _).2 (.inr hx)
   ·exact hx
  ·rcases eq.1 hz with rfl | hz
   ·refine h1 _ ?_;unfold nmR;rw[if_pos hk];exact (IU _ _ _).2 (.inl rfl)
   ·exact h2 z hz hk
theorem holds (p:Prg):Yt p:=by
 intro q s o;unfold I6 at q;simp only[ej,decide_eq_true_eq,ib] at q;obtain ⟨y,u,K,U⟩:=q;have D:=Qs p y;obtain ⟨R,w,J⟩:=abO u D (ex U);have G:=acf R w u K;have b:=abq G o;have v:=Z7 o;obtain ⟨C,_⟩:=Ol p y;have Q:=(aah (QL C D u) o).2;have T:=(MD Q).2.2.2;have I:hgt p (kP p)=R.S * (R.N + 2):=by unfold hgt; rw[w,J]
 have h:∀ t,Inv R t→Br t≤hgt p (kP p):=fun t a=>by rw[I]; exact a.dep
 refine ⟨fun t a=>h t (b.ty t a),?_⟩
 -- counting
 have E:s.types.length≤Cnt.cNum (Hj p).length (p.decls.foldl foF 0) (hgt p (kP p)):=Cnt.ZX v.ty fun t a=>Nl _ t (b.ty t a) (h t (b.ty t a));have m:alE p p.decls.length=allE p:=Ni p;have F:s.calls.length≤Cnt.cNum (Hj p).length (p.decls.foldl foF 0) (hgt p (kP p)) * ((alE p p.decls.length).foldl nmR []).length * (Cnt.cNum (Hj p).length (p.decls.foldl foF 0) (hgt p (kP p)) + 1) ^ ((alE p p.decls.length).foldl tgF 0):=by
  have:=Cnt.ZY (names:=Hj p) (ms:=(alE p p.decls.length).foldl nmR []) (A:=p.decls.foldl foF 0) (B:=(alE p p.decls.length).foldl tgF 0) (H:=hgt p (kP p)) (l:=s.calls.map fun c=>(c.on,c.name,c.targs)) (by
    rw[fB];exact v.ca) (fun c f=>by
    obtain ⟨d,e,rfl⟩:=eh.1 f;have:=(b.ca d e).on;exact Nl _ _ this (h _ this)) (fun c f=>by
    obtain ⟨d,e,rfl⟩:=eh.1 f;obtain ⟨z,g,r,O,_⟩:=(b.ca d e).in_;rw[← m] at g;have:=(YK (alE p p.decls.length) []).2 z g r;rwa [O] at this) (fun c f=>by
    obtain ⟨d,e,rfl⟩:=eh.1 f;obtain ⟨z,g,r,_,M⟩:=(b.ca d e).in_;rw[← m] at g;refine ⟨?_,fun t a=>?_⟩
    ·have:=(YJ (alE p p.decls.length) 0).2 z g r;rwa [M] at this
    ·obtain ⟨i,L,rfl⟩:=eT.1 a;have:=((b.ca d e).tb i L).1;exact Nl _ _ this (h _ this))
  rwa [ei] at this
 have W:=GT p.decls 0;have X:=C.1.1;have P:((alE p p.decls.length).foldl nmR []).length≤1000000:=by
  have j:=EQ (alE p p.decls.length) [];have V:=QJ p;rw[eZ] at j;rw[m] at j ⊢;change _≤0 + (AB p.main++exBR p.decls).length at j;omega
 rw[Vc] at E F;unfold ofR ofV2;have k:=Sat.typ (Sat.nat (n:=p.decls.foldl dcF 0) (by omega)) (p.decls.foldl foF 0) (hgt p (kP p));have x:=k.add ((k.mul (Sat.nat P)).mul ((k.add Sat.one).pow ((alE p p.decls.length).foldl tgF 0)));unfold Sat at x;rw[x];unfold Bg at T ⊢;omega
variable {H:Type} {enc:TypeId × Value→H} {w:World}
theorem JA (n:Nat):Opens enc Tryz.prog w 9 (fun s:Str=>[.val (.string s)]) (fun s=>s.size≤9223372036854775807) n:=Xu (by kernel_rfl) n
theorem JB (n:Nat):Opens enc Tryz.prog w 3 (fun i:Int=>[.val (.int .i64 i)]) (fun i=>-9223372036854775808≤i∧i≤9223372036854775807) n:=Xv (by kernel_rfl) n
theorem MP:(fun a=>(AC a).cells)=tyC:=funext fun a=>by rw[C0]; rfl
theorem opTy:∀ n:Nat,Opens enc Tryz.prog w 25 tyC okTy n:=by
 intro n;induction n using Nat.strongRecOn with
 | _ n ih =>
  cases n with
  | zero=>exact Opens.zero
  | succ n =>
   intro o x h;obtain ⟨d,c,i⟩:=Bn 0 (show fieldAt Tryz.prog 25 0=some (9,0) by kernel_rfl) h (JA n);obtain ⟨b,a,j⟩:=Bn 1 (show fieldAt Tryz.prog 25 1=some (23,1) by kernel_rfl) h
    (ES (e:=25) (k:=3) (f:=AC) (by kernel_rfl) (by kernel_rfl) (by decide) (fun _=>by rw[C0]; rfl)
     (fun m _=>by rw[MP]; exact ih m (by omega)))
   obtain ⟨g,_,l⟩:=Bn 2 (show fieldAt Tryz.prog 25 2=some (3,2) by kernel_rfl) h (JB n);refine ⟨.mk d b g,(DJ _).2 ⟨c,a.1,a.2⟩,(F8 (by kernel_rfl) h).trans (by kernel_rfl),?_⟩;exact (i.app j rfl).app l rfl
theorem acg (n:Nat):Opens enc Tryz.prog w 23 (fun l:List Ty=>[slTy l]) (fun l=>l.length≤9223372036854775807∧∀ a∈l,okTy a) n :=
 ES (e:=25) (k:=3) (f:=AC) (by kernel_rfl) (by kernel_rfl) (by decide) (fun a=>by rw[C0]; rfl) (fun m _=>by rw[MP]; exact opTy m)
theorem abQ (n:Nat):Opens enc Tryz.prog w 44 (fun l:List Str=>[slS l]) (fun l=>l.length≤9223372036854775807∧∀ a∈l,a.size≤9223372036854775807) n :=
 ES (e:=9) (k:=1) (f:=encS) (by kernel_rfl) (by kernel_rfl) (by decide) (fun a=>rfl) (fun m _=>JA m)
theorem opFm (n:Nat):Opens enc Tryz.prog w 92 (fun f=>(Bz f).cells) okFm n:=by
 cases n with
 | zero=>exact Opens.zero
 | succ n =>
  intro j x h;obtain ⟨c,a,e⟩:=Bn 0 (show fieldAt Tryz.prog 92 0=some (9,0) by kernel_rfl) h (JA n);obtain ⟨t,b,g⟩:=Bn 1 (show fieldAt Tryz.prog 92 1=some (25,1) by kernel_rfl) h (opTy n);obtain ⟨d,_,i⟩:=Bn 2 (show fieldAt Tryz.prog 92 2=some (3,4) by kernel_rfl) h (JB n);exact ⟨⟨c,t,d⟩,⟨a,b⟩,(F8 (by kernel_rfl) h).trans (by kernel_rfl),(e.app g rfl).app i rfl⟩
theorem opPa (n:Nat):Opens enc Tryz.prog w 84 (fun f=>(Bt f).cells) okPa n:=by
 cases n with
 | zero=>exact Opens.zero
 | succ n =>
  intro j x h;obtain ⟨c,a,e⟩:=Bn 0 (show fieldAt Tryz.prog 84 0=some (9,0) by kernel_rfl) h (JA n);obtain ⟨t,b,g⟩:=Bn 1 (show fieldAt Tryz.prog 84 1=some (25,1) by kernel_rfl) h (opTy n);obtain ⟨d,_,i⟩:=Bn 2 (show fieldAt Tryz.prog 84 2=some (3,4) by kernel_rfl) h (JB n);exact ⟨⟨c,t,d⟩,⟨a,b⟩,(F8 (by kernel_rfl) h).trans (by kernel_rfl),(e.app g rfl).app i rfl⟩
theorem aai (n:Nat):Opens enc Tryz.prog w 41 (fun l:List Formal=>[slFm l]) (fun l=>l.length≤9223372036854775807∧∀ a∈l,okFm a) n :=
 ES (e:=92) (k:=5) (f:=Bz) (by kernel_rfl) (by kernel_rfl) (by decide) (fun a=>rfl) (fun m _=>opFm m)
theorem aaj (n:Nat):Opens enc Tryz.prog w 42 (fun l:List Param=>[slPa l]) (fun l=>l.length≤9223372036854775807∧∀ a∈l,okPa a) n :=
 ES (e:=84) (k:=5) (f:=Bt) (by kernel_rfl) (by kernel_rfl) (by decide) (fun a=>rfl) (fun m _=>opPa m)
theorem opSi (n:Nat):Opens enc Tryz.prog w 46 siC okSi n:=by
 cases n with
 | zero=>exact Opens.zero
 | succ n =>
  intro p x h;obtain ⟨g,c,j⟩:=Bn 0 (show fieldAt Tryz.prog 46 0=some (9,0) by kernel_rfl) h (JA n);obtain ⟨b,d,k⟩:=Bn 1 (show fieldAt Tryz.prog 46 1=some (41,1) by kernel_rfl) h (aai n);obtain ⟨a,e,l⟩:=Bn 2 (show fieldAt Tryz.prog 46 2=some (42,2) by kernel_rfl) h (aaj n);obtain ⟨t,f,m⟩:=Bn 3 (show fieldAt Tryz.prog 46 3=some (25,3) by kernel_rfl) h (opTy n);obtain ⟨i,_,o⟩:=Bn 4 (show fieldAt Tryz.prog 46 4=some (3,6) by kernel_rfl) h (JB n);exact ⟨⟨g,b,a,t,i⟩,⟨c,d,e,f⟩,(F8 (by kernel_rfl) h).trans (by kernel_rfl),(((j.app k rfl).app l rfl).app m rfl).app o rfl⟩
set_option maxRecDepth 100000
variable {b0:Nat} {v:Value} {d:DataW H} {ps:List MemPlace}
variable {H:Type} {enc:TypeId × Value→H} {w:World}
theorem Uq:(fun a=>(AK a).cells)=exC:=funext fun a=>by rw[El]; rfl
theorem opEx:∀ n:Nat,Opens enc Tryz.prog w 28 exC okEx n:=by
 intro n;induction n using Nat.strongRecOn with
 | _ n ih =>
  cases n with
  | zero=>exact Opens.zero
  | succ n =>
   intro v x h;obtain ⟨i,_,o⟩:=Bn 0 (show fieldAt Tryz.prog 28 0=some (3,0) by kernel_rfl) h (JB n);obtain ⟨j,c,p⟩:=Bn 1 (show fieldAt Tryz.prog 28 1=some (9,1) by kernel_rfl) h (JA n);obtain ⟨u,d,q⟩:=Bn 2 (show fieldAt Tryz.prog 28 2=some (25,2) by kernel_rfl) h (opTy n);obtain ⟨b,g,r⟩:=Bn 3 (show fieldAt Tryz.prog 28 3=some (23,5) by kernel_rfl) h (acg n);obtain ⟨kids,a,s⟩:=Bn 4 (show fieldAt Tryz.prog 28 4=some (26,6) by kernel_rfl) h
    (ES (e:=28) (k:=8) (f:=AK) (by kernel_rfl) (by kernel_rfl) (by decide) (fun _=>by rw[El]; rfl)
     (fun m _=>by rw[Uq]; exact ih m (by omega)))
   obtain ⟨l,_,t⟩:=Bn 5 (show fieldAt Tryz.prog 28 5=some (3,7) by kernel_rfl) h (JB n);refine ⟨.mk i j u b kids l,(EW _).2 ⟨c,d,g,a.1,a.2⟩,(F8 (by kernel_rfl) h).trans (by kernel_rfl),?_⟩;exact ((((o.app p rfl).app q rfl).app r rfl).app s rfl).app t rfl
theorem ach (n:Nat):Opens enc Tryz.prog w 43 (fun l:List Sig=>[slSi l]) (fun l=>l.length≤9223372036854775807∧∀ a∈l,okSi a) n :=
 ES (e:=46) (k:=7) (f:=AH) (by kernel_rfl) (by kernel_rfl) (by decide) (fun a=>rfl) (fun m _=>opSi m)
theorem opDe (n:Nat):Opens enc Tryz.prog w 48 (fun a=>(Ce a).cells) okDe n:=by
 cases n with
 | zero=>exact Opens.zero
 | succ n =>
  intro H x h;obtain ⟨o,_,s⟩:=Bn 0 (show fieldAt Tryz.prog 48 0=some (3,0) by kernel_rfl) h (JB n);obtain ⟨p,e,t⟩:=Bn 1 (show fieldAt Tryz.prog 48 1=some (9,1) by kernel_rfl) h (JA n);obtain ⟨d,f,u⟩:=Bn 2 (show fieldAt Tryz.prog 48 2=some (41,2) by kernel_rfl) h (aai n);obtain ⟨c,g,v⟩:=Bn 3 (show fieldAt Tryz.prog 48 3=some (42,3) by kernel_rfl) h (aaj n);obtain ⟨E,i,y⟩:=Bn 4 (show fieldAt Tryz.prog 48 4=some (43,4) by kernel_rfl) h (ach n);obtain ⟨r,j,z⟩:=Bn 5 (show fieldAt Tryz.prog 48 5=some (9,5) by kernel_rfl) h (JA n)
  obtain ⟨G,k,A⟩:=Bn 6 (show fieldAt Tryz.prog 48 6=some (44,6) by kernel_rfl) h (abQ n);obtain ⟨F,l,B⟩:=Bn 7 (show fieldAt Tryz.prog 48 7=some (46,7) by kernel_rfl) h (opSi n);obtain ⟨b,m,C⟩:=Bn 8 (show fieldAt Tryz.prog 48 8=some (28,14) by kernel_rfl) h (opEx n);obtain ⟨q,_,D⟩:=Bn 9 (show fieldAt Tryz.prog 48 9=some (3,22) by kernel_rfl) h (JB n);refine ⟨⟨o,p,d,c,E,r,G,F,b,q⟩,⟨e,f,g,i,j,k,l,m⟩,(F8 (by kernel_rfl) h).trans (by kernel_rfl),?_⟩;exact ((((((((s.app t rfl).app u rfl).app v rfl).app y rfl).app z rfl).app A rfl).app B rfl).app C rfl).app D rfl
theorem aci (n:Nat):Opens enc Tryz.prog w 22 (fun l:List Dec=>[slDe l]) (fun l=>l.length≤9223372036854775807∧∀ a∈l,okDe a) n :=
 ES (e:=48) (k:=23) (f:=Ce) (by kernel_rfl) (by kernel_rfl) (by decide) (fun a=>rfl) (fun m _=>opDe m)
theorem opPr (n:Nat):Opens enc Tryz.prog w 30 prC okPr n:=by
 cases n with
 | zero=>exact Opens.zero
 | succ n =>
  intro g x h;obtain ⟨a,b,e⟩:=Bn 0 (show fieldAt Tryz.prog 30 0=some (22,0) by kernel_rfl) h (aci n);obtain ⟨d,c,f⟩:=Bn 1 (show fieldAt Tryz.prog 30 1=some (28,1) by kernel_rfl) h (opEx n);exact ⟨⟨a,d⟩,⟨b,c⟩,(F8 (by kernel_rfl) h).trans (by kernel_rfl),e.app f rfl⟩
set_option maxRecDepth 100000
variable {b0:Nat} {v:Value} {d:DataW H} {ps:List MemPlace}
theorem acj (hval:Value.okWide Tryz.prog w .any b0 30 v) (h:DataW.Trod enc Tryz.prog w 0 (fun _=>true) true 30 v d ps):∃ s,okPr s∧V (G0 w) w v (AZ s):=Y1 (by kernel_rfl) opPr hval h
def zPrg:Value:=.agg #[.slice none 0 0,.int .i64 0,.string ByteArray.empty,.string ByteArray.empty,.slice none 0 0,.int .i64 0,.slice none 0 0,.slice none 0 0,.int .i64 0]
end Go.Proofs.T
