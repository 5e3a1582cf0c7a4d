/- A part of the proof: ZAG. -/
import Derived.Test.YtnkpcgpmgkaakaaGreatZAF
import Derived.Test.YtnkpcgpmgkaakaaGreatProg
namespace Go.Ab
open Go Go.RowKit
section
variable {E:Ctx}
theorem Y6 {fn:Func} {g d:Nat} {r:D} {σ' : Sto} {st:St} {l:List ResultVar} (hl:fn.results=l.toArray) (hσ:∀ n o,get σ' n=some o→get st.σ n=some o) (h:SomeP (resD E.P st l) fun ds=>Co (resV ds) r):Ends E fn g d r σ' st:=by
 obtain ⟨ds,c,e⟩:=h.elim;intro j _ G w a b _;obtain ⟨v,f,i⟩:=JD (E:=E) b hl c;exact ⟨v,G,f,b.wf,e G w v i,b.objs.sub hσ,.drop hσ⟩
theorem Gj {fn:Func} {g d:Nat} {r:D} {own τ:Sto} {st:St} {l:List ResultVar} {Post:Sto→Prop} (hl:fn.results=l.toArray) (hσ:st.σ=own++τ) (hown:∀ p∈own,get τ p.1=none) (hpost:Post τ) (h:SomeP (resD E.P st l) fun ds=>Co (resV ds) r) :
  ∃ τ',Post τ'∧Ends E fn g d r τ' st :=
 ⟨τ,hpost,Y6 hl (fun n o hn=>hσ ▸ F9 hown n o hn) h⟩
def retP (E:Ctx) (fn:Func) (g d:Nat) (r:D) (Post:Sto→Prop):Exit→St→Prop
 | .normal,st=>∃ τ',Post τ'∧Ends E fn g d r τ' st
 | .ret,st=>∃ τ',Post τ'∧Ends E fn g d r τ' st
 | _,_=>False
theorem Ef {f:FuncId} {fn:Func} {c:Code} {N:Nat} {args:List D} {Pre Post:Sto→Prop} {r:D} (hcall:∀ xs w,(callFunc f xs).run E.P w=.ok (.enter f xs) w) (hf:E.P.funcs[f]?=some fn) (hb:fn.body=some c) (hN:fn.ntmps=N) (hargs:args.length≤N)
  (h:∀ g d τ,Pre τ→AWp E N c (retP E fn g d r Post) ⟨Gi 0 args,τ⟩):IC E f args Pre Post r:=by
 refine ⟨hcall,fun g d m T G w R σ ab Y I ho L=>?_⟩;refine callsIn_wide.1 (callsIn_of_wp_marks (F:=Fr none) (n:=0) hf hb (Fi _ _) ?_);have ad:WF m { G with base:=w.heap.size } w:=Y.rebase _;have a9:Objs m { G with base:=w.heap.size } w (get σ):=ho.rebase _;have X:(R++Array.replicate (fn.ntmps - R.size) undef).size=N:=by
  have:=I.1;simp;omega
 refine wpIn_mono (h g d σ ab m T { G with base:=w.heap.size } w _ X ⟨ad,fun t x H=>?_,a9,.nil (ec _)⟩ none (fun _=>rfl)) ?_
 ·obtain ⟨_,p⟩:=KF 0 args t x H;simp only[Nat.sub_zero] at p;have M:t < R.size:=by
   have:=(dW.1 p).1;have:=I.1;omega
  refine ⟨by rw[X]; have:=I.1; omega,?_⟩;rw[er,gQ M];simp only[M,getElem?_pos,eX];exact (I.2 t _ x (by simp[M]) p).rebase _
 ·rintro en u a ⟨s,Q,h1,p,S,J⟩;have key:(∃ i,Post i∧Ends E fn g d r i Q)→LeavesInM (Fr none) 0 E.P fn u.tmps (fun e l=>∃ v k i,e=.returned v∧Post i∧WF m k l∧V k l v r∧Objs m k l (get i)∧Step (rsv g (some d)) G w (get σ) k l (get i)) u.defers .returning a:=by
   rintro ⟨i,aa,he⟩;obtain ⟨a5,o,a6,O,B⟩:=p.defers;have a3:=S.base;have a4:s.base=w.heap.size:=a3;have go:∀ (o:List Nat) (a : World) (y:Act),y.tmps=u.tmps→o.Nodup→(∀ b∈o,s.F b∧s.base≤b∧a.heap[b]?=some (.deferred (some [])))→Rel m s a { y with defers:=[] } Q→Step no { G with base:=w.heap.size } w (get σ) s a (get Q.σ) →
     LeavesInM (Fr none) 0 E.P fn u.tmps (fun e l=>∃ v k i,e=.returned v∧Post i∧WF m k l∧V k l v r∧Objs m k l (get i)∧Step (rsv g (some d)) G w (get σ) k l (get i)) (o.map (fun b=>{ target:=.collected b,args:=#[] })) .returning a:=by
    intro o;induction o with
    | nil =>
     intro a y K _ _ q A;obtain ⟨v,k,k1,k2,k3,k4,k5⟩:=he m T s a { y with defers:=[] } q ⟨eV L.1 A.top,fun j=>A.fresh L.1 (L.2 j) fun h=>h⟩;have ac:=(A.weaken (R':=rsv g (some d)) fun _ _ h=>h.elim).trans k5;have af : (results fn u.tmps).run E.P a=.ok v a:=by rw[← K]; exact k1
     exact ⟨v,af,v,{ k with base:=G.base },i,rfl,aa,k2.rebase _,k3.rebase _,k4.rebase _,Step.rebase w.heap.size ac⟩
    | cons z o ih =>
     intro a y K O B q A;obtain ⟨m1,m2,Z⟩:=B z dY;obtain ⟨n1,n2⟩:=fA.1 O;have C:Shut a (a.putObj z (.deferred none)) z:=⟨Z,rfl⟩
     have W:w.heap.size≤z:=a4 ▸ m2;obtain ⟨q1,q2⟩:=SP C (ef Y.below.size W) m1 q.wf q.objs;refine ⟨by simp,.inl ⟨z,_,rfl,run_takeDeferred Z,?_⟩⟩;refine ih _ y K n2 (fun b U=>?_) ⟨q1,fun t x H=>⟨(q.env t x H).1,(q.env t x H).2.shut C⟩,q2,.nil (by have:=q.defers.1; simpa [World.putObj] using this)⟩ (QX C A W);obtain ⟨x1,x2,x3⟩:=B b (ea _ U);exact ⟨x1,x2,(C.heap fun e=>n1 (e ▸ U)).trans x3⟩
   rw[a6];exact go o a u rfl O B ⟨p.wf,p.env,p.objs,.nil a5⟩ S
  cases en with
  | normal=>exact key J
  | ret=>exact key J
  | _=>exact J.elim
end
theorem Y7 {w0:World} {G:Gh} {w:World} {κ:Kp} (hw:WF w0 G w) (ho:Objs w0 G w κ) :
  WF w0 { G with F:=fun b=>G.F b∨b=w.heap.size,top:=G.top + 1 } (w.alloc (.deferred (some [])))∧Objs w0 { G with F:=fun b=>G.F b∨b=w.heap.size,top:=G.top + 1 } (w.alloc (.deferred (some []))) κ ∧
   Step no G w κ { G with F:=fun b=>G.F b∨b=w.heap.size,top:=G.top + 1 } (w.alloc (.deferred (some []))) κ:=by
 have l:(w.alloc (.deferred (some []))).heap.size=w.heap.size + 1:=World.size_alloc _ _;have i:∀ b,b < w.heap.size→(w.alloc (.deferred (some []))).heap[b]?=w.heap[b]?:=fun b a=>Dw w _ b a;have k:∀ v d,V G w v d→V { G with F:=fun b=>G.F b∨b=w.heap.size,top:=G.top + 1 } (w.alloc (.deferred (some []))) v d:=fun v d h=>h.mono (fun _ h=>.inl h) (fun b a=>i b (hw.lt b a)) (fun _ _ h=>h);refine ⟨⟨Bel.of_grown hw.below (GV w _) (fun b h=>by cases h),fun b a=>.inl (hw.old b a),fun b a=>?_,fun n v g=>?_⟩,⟨fun n o g=>?_,ho.ne⟩,?_⟩
 ·rcases a with a | a
  ·have:=hw.lt b a; omega
  ·omega
 ·obtain ⟨f,c⟩:=hw.nm n v g;exact ⟨Nat.lt_succ_of_lt f,fun b a=>⟨(c b a).1,by have:=(c b a).2; omega⟩⟩
 ·obtain ⟨v,f,c,j⟩:=ho.ob n o g;exact ⟨v,f,c.mono k fun b a=>i b (c.lt b a),fun b a e=>by
   rcases e with e | e
   ·exact j b a e
   ·have:=c.lt b a; omega⟩
 ·exact ⟨by omega,fun b a _=>i b a,fun _ h=>.inl h,fun b h=>by
   rcases h with h | h
   ·exact .inl h
   ·exact .inr (.inl (by omega)),fun _ _ h=>h,fun _ _ h _=>h,fu _,fun b h=>.inr h,fun n h=>.inl h,rfl⟩
theorem Xz {E:Ctx} {N:Nat} {Q:Exit→St→Prop} {st:St} {gop:Operand} {p:Tmp} {assign body:Code} {f:FuncId} {caps:List D} {rD:D} (hE:E.rd=false) (hg:ev E st.env gop=.func (.func f) [] caps) (hp:p < N) (L:List D) (J:Nat→Sto→Prop) (h0:J 0 st.σ)
  (hit:∀ n (I:Nat→Sto→Prop),(∀ k (hk:k < L.length),YC E n L[k] (I k) (I (k + 1)))→IC E f (.yld n :: caps) (I 0) (I L.length) rD)
  (hround:∀ k (hk:k < L.length) σ,J k σ→AWp E.rnd N assign (F1 (fun s=>AWp E.rnd N body (F1 (fun s'=>J (k + 1) s'.σ) fun _ _=>False) s) fun _ _=>False) { env:=(p,L[k]) :: st.env,σ:=σ })
  (hdone:∀ σ,J L.length σ→Q .normal { env:=st.env,σ:=σ }):AWp E N (.rangeFunc gop #[p] assign body) Q st:=by
 intro w0 hA G w a hN c r aI;obtain rfl:=aI hE;refine wpIn_rangeFunc fun fn _=>?_;have K:=c.ev hA gop;rw[hg] at K;generalize aA:a.eval gop=u at K;cases K with
 | func h1 S h3 h4 =>
  rename_i fv cv;have e1:fv=#[]:=Array.size_eq_zero_iff.1 h1;subst e1;obtain ⟨m1,m2,m3⟩:=Y7 c.wf c.objs;generalize T:({ G with F:=fun b=>G.F b∨b=w.heap.size,top:=G.top + 1 }:Gh)=R at m1 m2 m3;have ag:(w.alloc (.deferred (some []))).heap[w.heap.size]?=some (.deferred (some [])):=Dv w _;have aj:(w.alloc (.deferred (some []))).heap.size=w.heap.size + 1:=World.size_alloc _ _;have aw:R.F w.heap.size:=by rw[← T]; exact .inr rfl
  generalize aL:w.alloc (.deferred (some []))=l at m1 m2 m3 ag aj
  let rc:Loop:={ state:=.ready,pending:=none,fn,tmps:=a.tmps,params:=#[p],assign,body,defers:=w.heap.size }
  let n:Nm:=⟨G.top,0,0⟩
  have a6:R.ρ n=none:=by
   cases H:G.ρ n with
   | none=>rw[← T]; exact H
   | some v=>exact absurd (c.wf.nm n v H).1 (ik _)
  have aE:n.g < R.top:=by rw[← T]; exact gj _
  have ae:∀ t d,lk st.env t=some d→t < rc.tmps.size∧V R l (rc.tmps.getD t undef) d:=fun t d z=>⟨(c.env t d z).1,(c.env t d z).2.step m3 c.wf c.objs⟩
  obtain ⟨Y,U,Z⟩:=Gf (n:=n) (v:=.pointer (some ⟨l.heap.size,0,none⟩)) (ob:=.loop rc st.env) m1 m2 a6 aE (GV l (.loop rc)) (fun b X=>by simp[blk] at X; subst X; simp)
   ⟨l.heap.size,rfl,Dv l _,fun t d z=>⟨(ae t d z).1,(ae t d z).2.upd a6 (fun b hF=>Dw l _ b (m1.lt b hF))⟩⟩
  have aG:Kp.or (single n (.loop rc st.env)) (get st.σ)=get ((n,.loop rc st.env) :: st.σ):=by
   funext m
   simp only[Kp.or,single,get];split <;> simp
  rw[aG] at U Z;generalize W:R.upd n (.pointer (some ⟨l.heap.size,0,none⟩))=y at Y U Z;have al:y.ρ n=some (.pointer (some ⟨l.heap.size,0,none⟩)):=by rw[← W]; simp[Gh.upd]
  have az:∀ j,y.ρ ⟨G.top,1,j⟩=none:=fun j=>by
   rw[← W];have:G.ρ ⟨G.top,1,j⟩=none:=by
    cases H:G.ρ ⟨G.top,1,j⟩ with
    | none=>rfl
    | some v=>exact absurd (c.wf.nm _ v H).1 (ik _)
   simp only[Gh.upd];rw[if_neg (by simp[n]),← T];exact this
  have aJ:G.top < y.top:=by rw[← W,← T]; exact gj _
  have aF:get st.σ n=none:=by
   cases H:get st.σ n with
   | none=>rfl
   | some o =>
    obtain ⟨v,K,_⟩:=m2.ob n o H;rw[a6] at K; cases K
  generalize ak:l.alloc (.loop rc)=B at Y U Z;have au:B.heap[w.heap.size]?=some (.deferred (some [])):=by
   rw[← ak,Dw l _ _ (by omega)];exact ag
  have ah:Step no G w (get st.σ) y B (get ((n,.loop rc st.env) :: st.σ)):=by
   have s:=(m3.weaken (R':=fun m=>m.g=G.top) fun _ _ h=>h.elim).trans (Z.weaken (R':=fun m=>m.g=G.top) fun m _ q=>by rw[q]);exact s.weaken fun m h1 S=>by
    have h3:m.g=G.top:=S;omega
  have af:=hit n (fun k τ=>∃ σ,τ=(n,.loop rc st.env) :: σ∧J k σ∧get σ n=none) fun k hk=>Y5 rfl rfl rfl hN hp (hround k hk);have aK:Vs y B (#[.func (.yield l.heap.size) #[] #[]]++cv) (.yld n :: caps):=by
   refine Vs.append (a:=#[.func (.yield l.heap.size) #[] #[]]) (x:=[.yld n]) ⟨rfl,fun i x d M C=>?_⟩ ⟨S,fun i x d M C=>?_⟩
   ·match i,M,C with
    | 0,M,C=>cases M; cases C; exact .yld al
    | i + 1,M,C=>simp at C
   ·exact (h4 i x d M C).step ah c.wf c.objs
  refine ⟨l.heap.size,[{ target:=.collected w.heap.size,args:=#[] }],B,{ target:=.fn (.func f) cv,args:=#[.func (.yield l.heap.size) #[] #[]] },B,f,#[.func (.yield l.heap.size) #[] #[]]++cv,B,?_,?_,fun _ _=>Fi _ _,?_,Kw none 0,OQ.2 (Calls.mono (af.run G.top 1 w0 hA y B _ _ ⟨st.σ,rfl,h0,aF⟩ Y aK U ⟨aJ,az⟩) ?_)⟩
  ·have:=run_enterLoop_outer (P:=E.P) (w:=w) fn a.tmps #[p] assign body;rw[aj,← ak];subst aL;exact this
  ·simp only[resolve,aA];simp[Deferred.ofValue]
   rfl
  ·simp[invoke,af.call]
  ·rintro e w' ⟨v,G',τ',rfl,⟨O,rfl,hJ,aC⟩,q1,q2,q3,q4⟩;have aM:=q4.ρ n _ al;obtain ⟨hl,t1,t2,t3⟩:=L4 (rc':={ rc with state:=.exhausted }) q1 q3 aM rfl;refine ⟨none,_,run_endLoop (P:=E.P) hl (by simp[rc]),?_⟩;have ai:∀ m o,get O m=some o→get ((n,Ob.loop { rc with state:=.exhausted } st.env) :: O) m=some o:=fun m o q=>F9 (own:=[(n,_)]) (fun _ hq=>by rw[eg.1 hq]; exact aC) m o q;have s2:Step (fun m=>m.g=G.top) y B (get ((n,.loop rc st.env) :: st.σ)) G' _ (get O):=((q4.weaken fun m _ q=>q.1).trans (t3.weaken fun _ _ h=>h.elim)).trans (Step.drop ai)
   have A:Step no G w (get st.σ) G' _ (get O):=((ah.weaken (R':=fun m=>m.g=G.top) fun _ _ h=>h.elim).trans s2).weaken fun m h1 S=>by
    have h3:m.g=G.top:=S;omega
   refine ⟨G',{ env:=st.env,σ:=O },hN,⟨t1,fun t d z=>⟨(c.env t d z).1,(c.env t d z).2.step A c.wf c.objs⟩,t2.sub ai,?_⟩,A,hdone O hJ⟩;obtain ⟨X,Ds,ay,aD,hD⟩:=c.defers;have ac:y.F w.heap.size:=by rw[← W]; exact aw
   refine ⟨?_,w.heap.size :: Ds,by simp[ay],fA.2 ⟨fun q=>ik _ (c.wf.lt _ (hD _ q).1),aD⟩,fun b q=>?_⟩
   ·have:=A.base;have:=A.size;omega
   ·rcases eq.1 q with rfl | q
    ·exact ⟨s2.F _ ac,by rw[A.base]; exact X,(s2.keeps Y U _ ac).trans au⟩
    ·obtain ⟨x1,x2,x3⟩:=hD b q;exact ⟨A.F _ x1,by rw[A.base]; exact x2,(A.keeps c.wf c.objs _ x1).trans x3⟩
theorem Ho {E:Ctx} {N:Nat} {Q:Exit→St→Prop} {st:St} {gop:Operand} {p:Tmp} {assign body:Code} {f:FuncId} {caps:List D} {rD:D} (hE:E.rd=false) (hg:ev E st.env gop=.func (.func f) [] caps) (hp:p < N) (L:List D) (J:Nat→Sto→Prop) (h0:J 0 st.σ)
  (hit:∀ n (I:Nat→Sto→Prop),(∀ k (hk:k < L.length),YC E n L[k] (I k) (I (k + 1)))→IC E f (.yld n :: caps) (I 0) (I L.length) rD)
  (hround:∀ k (hk:k < L.length) σ,J k σ→∀ KA:St→Prop,(∀ s,(∀ KB:St→Prop,(∀ s',J (k + 1) s'.σ→KB s')→AWp E.rnd N body (F1 KB fun _ _=>False) s)→KA s)→AWp E.rnd N assign (F1 KA fun _ _=>False) { env:=(p,L[k]) :: st.env,σ:=σ })
  (hdone:∀ σ,J L.length σ→Q .normal { env:=st.env,σ:=σ }):AWp E N (.rangeFunc gop #[p] assign body) Q st :=
 Xz hE hg hp L J h0 hit (fun k hk σ hJ=>hround k hk σ hJ (fun s=>AWp E.rnd N body (F1 (fun s'=>J (k + 1) s'.σ) fun _ _=>False) s) fun _ h=>h _ fun _ h=>h) hdone
theorem ACalls.rnd {E:Ctx} {f:FuncId} {args:List D} {σ σ' : Sto} {g d:Nat} {r:D} (h:ACalls E f args σ g d r σ'):ACalls E.rnd f args σ g d r σ':=⟨h.call,h.run⟩
def LeT (st' st:St):Prop:=(∀ p∈st'.env,lk st.env p.1=some p.2)∧(∀ n o,get st'.σ n=some o→get st.σ n=some o)
theorem Sees.keepT {E:Ctx} {K:St→Prop} {st st' : St} (h:LeT st' st) (hk:K st'):Sees E st K:=by
 intro e _ G w a b;exact ⟨G,st',⟨b.wf,fun t d c=>b.env t d (h.1 (t,d) (QQ c)),b.objs.sub h.2,b.defers⟩,.drop h.2,hk⟩
theorem Da {E:Ctx} {N:Nat} {Q:Exit→St→Prop} {c:Code} {st st' : St} (hl:LeT st' st) (h:AWp E N c Q st'):AWp E N c Q st:=Sees.awp (Sees.keepT hl h)
theorem SZ {st st' : St} (hσ:st'.σ=st.σ) (h:leE st'.env st.env):LeT st' st:=⟨CD h,fun _ _ hn=>hσ ▸ hn⟩
end Go.Ab
namespace Go.Proofs.T
open Go Go.Ab Go.RowKit
noncomputable def E:Ctx:={ P:=Tryz.prog,A:=fun _=>True,glob:=fun _=>.any,hglob:=fun _ _ _ _ _ _=>.any _,mixed:=by kernel_rfl }
@[go_sem] theorem E_P:E.P=Tryz.prog:=rfl
@[go_sem] theorem acY:E.rnd.P=Tryz.prog:=rfl
theorem abw:∀ w0 w,E.A w0→RowKit.Below w0.heap.size w0 w→E.A w:=fun _ _ _ _=>trivial
@[go_sem] theorem ha0:hasT Tryz.prog 0=true:=by kernel_rfl
@[go_sem] theorem ha1:hasT Tryz.prog 1=true:=by kernel_rfl
@[go_sem] theorem es2:AM Tryz.prog 2=none:=by kernel_rfl
@[go_sem] theorem ha2:hasT Tryz.prog 2=true:=by kernel_rfl
@[go_sem] theorem ha3:hasT Tryz.prog 3=true:=by kernel_rfl
@[go_sem] theorem ha4:hasT Tryz.prog 4=true:=by kernel_rfl
@[go_sem] theorem ha5:hasT Tryz.prog 5=true:=by kernel_rfl
@[go_sem] theorem facts1:szOf Tryz.prog 0=some 1∧AS Tryz.prog 0=some false∧AM Tryz.prog 0=none∧AV Tryz.prog 0=false∧AJ Tryz.prog 0=some 0∧szOf Tryz.prog 2=some 1∧AS Tryz.prog 2=some false∧AV Tryz.prog 2=false∧Fo Tryz.prog 2=some .i64∧AJ Tryz.prog 2=some 8∧AL Tryz.prog 2=some (.int .i64 0)∧szOf Tryz.prog 3=some 1∧AS Tryz.prog 3=some false∧AM Tryz.prog 3=none∧AV Tryz.prog 3=false∧Fo Tryz.prog 3=some .i64∧AJ Tryz.prog 3=some 8∧AL Tryz.prog 3=some (.int .i64 0)∧szOf Tryz.prog 4=some 1∧AS Tryz.prog 4=some false∧AM Tryz.prog 4=none∧AV Tryz.prog 4=false∧AJ Tryz.prog 4=some 1∧Qe Tryz.prog 4=true∧AL Tryz.prog 4=some (.bool false)∧szOf Tryz.prog 5=some 1∧AS Tryz.prog 5=some false∧AM Tryz.prog 5=none∧AV Tryz.prog 5=false∧Fo Tryz.prog 5=some .u8∧AJ Tryz.prog 5=some 1∧AL Tryz.prog 5=some (.int .u8 0)∧szOf Tryz.prog 6=some 1∧AS Tryz.prog 6=some false∧AM Tryz.prog 6=none∧hasT Tryz.prog 6=true∧AV Tryz.prog 6=false∧Fo Tryz.prog 6=some .u8∧AJ Tryz.prog 6=some 1∧AL Tryz.prog 6=some (.int .u8 0):=by
 repeat' apply And.intro
 all_goals kernel_rfl
@[go_sem] theorem ha7:hasT Tryz.prog 7=true:=by kernel_rfl
@[go_sem] theorem sz9:szOf Tryz.prog 9=some 1:=by kernel_rfl
@[go_sem] theorem by9:AJ Tryz.prog 9=some 16:=by kernel_rfl
@[go_sem] theorem ze9:AL Tryz.prog 9=some (.string ByteArray.empty):=by kernel_rfl
@[go_sem] theorem ha10:hasT Tryz.prog 10=true:=by kernel_rfl
@[go_sem] theorem es23:AM Tryz.prog 23=some 25:=by kernel_rfl
@[go_sem] theorem sz25:szOf Tryz.prog 25=some 3:=by kernel_rfl
@[go_sem] theorem facts2:szOf Tryz.prog 7=some 4∧AS Tryz.prog 7=some true∧AR Tryz.prog 7 0=some (0,2)∧AR Tryz.prog 7 1=some (1,3)∧AR Tryz.prog 7 2=some (2,4)∧AR Tryz.prog 7 3=some (3,6)∧AM Tryz.prog 7=none∧AV Tryz.prog 7=false∧Cj Tryz.prog 7=some [(0,1),(1,1),(2,1),(3,1)]∧AJ Tryz.prog 7=some 24∧egOf Tryz.prog 7=false∧KS.of Tryz.prog 7=some (.agg [(.num .i64),(.num .i64),.boo,(.num .u8)])∧AL Tryz.prog 7=some (.agg #[(.int .i64 0),(.int .i64 0),(.bool false),(.int .u8 0)])∧AS Tryz.prog 9=some false∧AM Tryz.prog 9=none∧hasT Tryz.prog 9=true∧Hk Tryz.prog 9=true∧AV Tryz.prog 9=false∧szOf Tryz.prog 20=some 1∧AS Tryz.prog 20=some false∧AM Tryz.prog 20=none∧hasT Tryz.prog 20=true∧AV Tryz.prog 20=true∧AJ Tryz.prog 20=some 16∧AL Tryz.prog 20=some .nilIface∧szOf Tryz.prog 22=some 1∧AS Tryz.prog 22=some false∧AM Tryz.prog 22=some 48∧hasT Tryz.prog 22=true∧AV Tryz.prog 22=false∧AJ Tryz.prog 22=some 24∧AL Tryz.prog 22=some (.slice none 0 0)∧szOf Tryz.prog 23=some 1∧AS Tryz.prog 23=some false∧hasT Tryz.prog 23=true∧AV Tryz.prog 23=false∧AJ Tryz.prog 23=some 24∧AL Tryz.prog 23=some (.slice none 0 0)∧AS Tryz.prog 25=some true∧AR Tryz.prog 25 0=some (0,9):=by
 repeat' apply And.intro
 all_goals kernel_rfl
@[go_sem] theorem by25:AJ Tryz.prog 25=some 48:=by kernel_rfl
@[go_sem] theorem ze25:AL Tryz.prog 25=some (.agg #[(.string ByteArray.empty),(.slice none 0 0),(.int .i64 0)]):=by kernel_rfl
@[go_sem] theorem es26:AM Tryz.prog 26=some 28:=by kernel_rfl
@[go_sem] theorem sz28:szOf Tryz.prog 28=some 8:=by kernel_rfl
@[go_sem] theorem by28:AJ Tryz.prog 28=some 128:=by kernel_rfl
@[go_sem] theorem ze28:AL Tryz.prog 28=some (.agg #[(.int .i64 0),(.string ByteArray.empty),(.string ByteArray.empty),(.slice none 0 0),(.int .i64 0),(.slice none 0 0),(.slice none 0 0),(.int .i64 0)]):=by kernel_rfl
@[go_sem] theorem es33:AM Tryz.prog 33=some 79:=by kernel_rfl
@[go_sem] theorem facts3:AR Tryz.prog 25 1=some (1,23)∧AR Tryz.prog 25 2=some (2,3)∧AM Tryz.prog 25=none∧hasT Tryz.prog 25=true∧AV Tryz.prog 25=false∧Cj Tryz.prog 25=some [(0,1),(1,1),(2,1)]∧szOf Tryz.prog 26=some 1∧AS Tryz.prog 26=some false∧hasT Tryz.prog 26=true∧AV Tryz.prog 26=false∧AJ Tryz.prog 26=some 24∧AL Tryz.prog 26=some (.slice none 0 0)∧AS Tryz.prog 28=some true∧AR Tryz.prog 28 0=some (0,3)∧AR Tryz.prog 28 1=some (1,9)∧AR Tryz.prog 28 2=some (2,25)∧AR Tryz.prog 28 3=some (5,23)∧AR Tryz.prog 28 4=some (6,26)∧AR Tryz.prog 28 5=some (7,3)∧AM Tryz.prog 28=none∧hasT Tryz.prog 28=true∧AV Tryz.prog 28=false∧Cj Tryz.prog 28=some [(0,1),(1,1),(2,3),(5,1),(6,1),(7,1)]∧szOf Tryz.prog 30=some 9∧AS Tryz.prog 30=some true∧AR Tryz.prog 30 0=some (0,22)∧AR Tryz.prog 30 1=some (1,28)∧AM Tryz.prog 30=none∧hasT Tryz.prog 30=true∧AV Tryz.prog 30=false∧Cj Tryz.prog 30=some [(0,1),(1,8)]∧AJ Tryz.prog 30=some 152∧AL Tryz.prog 30=some (.agg #[(.slice none 0 0),(.int .i64 0),(.string ByteArray.empty),(.string ByteArray.empty),(.slice none 0 0),(.int .i64 0),(.slice none 0 0),(.slice none 0 0),(.int .i64 0)])∧szOf Tryz.prog 33=some 1∧AS Tryz.prog 33=some false∧hasT Tryz.prog 33=true∧AV Tryz.prog 33=false∧AJ Tryz.prog 33=some 24∧AL Tryz.prog 33=some (.slice none 0 0)∧szOf Tryz.prog 35=some 3:=by
 repeat' apply And.intro
 all_goals kernel_rfl
@[go_sem] theorem es41:AM Tryz.prog 41=some 92:=by kernel_rfl
@[go_sem] theorem es42:AM Tryz.prog 42=some 84:=by kernel_rfl
@[go_sem] theorem es43:AM Tryz.prog 43=some 46:=by kernel_rfl
@[go_sem] theorem es44:AM Tryz.prog 44=some 9:=by kernel_rfl
@[go_sem] theorem facts4:AS Tryz.prog 35=some true∧AR Tryz.prog 35 0=some (0,23)∧AR Tryz.prog 35 1=some (1,33)∧AR Tryz.prog 35 2=some (2,4)∧AM Tryz.prog 35=none∧hasT Tryz.prog 35=true∧AV Tryz.prog 35=false∧Cj Tryz.prog 35=some [(0,1),(1,1),(2,1)]∧AJ Tryz.prog 35=some 56∧AL Tryz.prog 35=some (.agg #[(.slice none 0 0),(.slice none 0 0),(.bool false)])∧szOf Tryz.prog 36=some 1∧AS Tryz.prog 36=some false∧AM Tryz.prog 36=none∧hasT Tryz.prog 36=true∧AV Tryz.prog 36=false∧AJ Tryz.prog 36=some 0∧szOf Tryz.prog 41=some 1∧AS Tryz.prog 41=some false∧hasT Tryz.prog 41=true∧AV Tryz.prog 41=false∧AJ Tryz.prog 41=some 24∧AL Tryz.prog 41=some (.slice none 0 0)∧szOf Tryz.prog 42=some 1∧AS Tryz.prog 42=some false∧hasT Tryz.prog 42=true∧AV Tryz.prog 42=false∧AJ Tryz.prog 42=some 24∧AL Tryz.prog 42=some (.slice none 0 0)∧szOf Tryz.prog 43=some 1∧AS Tryz.prog 43=some false∧hasT Tryz.prog 43=true∧AV Tryz.prog 43=false∧AJ Tryz.prog 43=some 24∧AL Tryz.prog 43=some (.slice none 0 0)∧szOf Tryz.prog 44=some 1∧AS Tryz.prog 44=some false∧hasT Tryz.prog 44=true∧AV Tryz.prog 44=false∧AJ Tryz.prog 44=some 24∧AL Tryz.prog 44=some (.slice none 0 0):=by
 repeat' apply And.intro
 all_goals kernel_rfl
@[go_sem] theorem sz46:szOf Tryz.prog 46=some 7:=by kernel_rfl
@[go_sem] theorem by46:AJ Tryz.prog 46=some 120:=by kernel_rfl
@[go_sem] theorem ze46:AL Tryz.prog 46=some (.agg #[(.string ByteArray.empty),(.slice none 0 0),(.slice none 0 0),(.string ByteArray.empty),(.slice none 0 0),(.int .i64 0),(.int .i64 0)]):=by kernel_rfl
@[go_sem] theorem facts5:AS Tryz.prog 46=some true∧AR Tryz.prog 46 0=some (0,9)∧AR Tryz.prog 46 1=some (1,41)∧AR Tryz.prog 46 2=some (2,42)∧AR Tryz.prog 46 3=some (3,25)∧AR Tryz.prog 46 4=some (6,3)∧AM Tryz.prog 46=none∧hasT Tryz.prog 46=true∧AV Tryz.prog 46=false∧Cj Tryz.prog 46=some [(0,1),(1,1),(2,1),(3,3),(6,1)]∧szOf Tryz.prog 48=some 23∧AS Tryz.prog 48=some true∧AR Tryz.prog 48 0=some (0,3)∧AR Tryz.prog 48 1=some (1,9)∧AR Tryz.prog 48 2=some (2,41)∧AR Tryz.prog 48 3=some (3,42)∧AR Tryz.prog 48 4=some (4,43)∧AR Tryz.prog 48 5=some (5,9)∧AR Tryz.prog 48 6=some (6,44)∧AR Tryz.prog 48 7=some (7,46)∧AR Tryz.prog 48 8=some (14,28)∧AR Tryz.prog 48 9=some (22,3)∧AM Tryz.prog 48=none∧hasT Tryz.prog 48=true∧AV Tryz.prog 48=false∧Cj Tryz.prog 48=some [(0,1),(1,1),(2,1),(3,1),(4,1),(5,1),(6,1),(7,7),(14,8),(22,1)]∧AJ Tryz.prog 48=some 392∧AL Tryz.prog 48=some (.agg #[(.int .i64 0),(.string ByteArray.empty),(.slice none 0 0),(.slice none 0 0),(.slice none 0 0),(.string ByteArray.empty),(.slice none 0 0),(.string ByteArray.empty),(.slice none 0 0),(.slice none 0 0),(.string ByteArray.empty),(.slice none 0 0),(.int .i64 0),(.int .i64 0),(.int .i64 0),(.string ByteArray.empty),(.string ByteArray.empty),(.slice none 0 0),(.int .i64 0),(.slice none 0 0),(.slice none 0 0),(.int .i64 0),(.int .i64 0)])∧szOf Tryz.prog 52=some 3∧AS Tryz.prog 52=some true∧AR Tryz.prog 52 0=some (0,3)∧AR Tryz.prog 52 1=some (1,4)∧AR Tryz.prog 52 2=some (2,4)∧AM Tryz.prog 52=none∧hasT Tryz.prog 52=true∧AV Tryz.prog 52=false∧Cj Tryz.prog 52=some [(0,1),(1,1),(2,1)]∧AJ Tryz.prog 52=some 16∧egOf Tryz.prog 52=false∧KS.of Tryz.prog 52=some (.agg [(.num .i64),.boo,.boo]):=by
 repeat' apply And.intro
 all_goals kernel_rfl
@[go_sem] theorem facts6:AL Tryz.prog 52=some (.agg #[(.int .i64 0),(.bool false),(.bool false)])∧szOf Tryz.prog 59=some 1∧AS Tryz.prog 59=some false∧AM Tryz.prog 59=none∧hasT Tryz.prog 59=true∧AV Tryz.prog 59=false∧AJ Tryz.prog 59=some 8∧mapT Tryz.prog 59=some (9,4)∧KS.of Tryz.prog 9=some (.one .str)∧AL Tryz.prog 59=some (.map none)∧szOf Tryz.prog 61=some 5∧AS Tryz.prog 61=some true∧AR Tryz.prog 61 0=some (0,3)∧AR Tryz.prog 61 1=some (1,3)∧AR Tryz.prog 61 2=some (2,3)∧AR Tryz.prog 61 3=some (3,3)∧AR Tryz.prog 61 4=some (4,59)∧AM Tryz.prog 61=none∧hasT Tryz.prog 61=true∧AV Tryz.prog 61=false∧Cj Tryz.prog 61=some [(0,1),(1,1),(2,1),(3,1),(4,1)]∧AJ Tryz.prog 61=some 40∧AL Tryz.prog 61=some (.agg #[(.int .i64 0),(.int .i64 0),(.int .i64 0),(.int .i64 0),(.map none)])∧szOf Tryz.prog 66=some 1∧AS Tryz.prog 66=some false∧AM Tryz.prog 66=none∧hasT Tryz.prog 66=true∧AV Tryz.prog 66=false∧AJ Tryz.prog 66=some 8∧AL Tryz.prog 66=some .nilFunc∧szOf Tryz.prog 69=some 1∧AS Tryz.prog 69=some false∧AM Tryz.prog 69=none∧hasT Tryz.prog 69=true∧AV Tryz.prog 69=false∧AJ Tryz.prog 69=some 0∧szOf Tryz.prog 72=some 12∧AS Tryz.prog 72=some true∧AR Tryz.prog 72 0=some (0,30)∧AR Tryz.prog 72 1=some (9,4):=by
 repeat' apply And.intro
 all_goals kernel_rfl
@[go_sem] theorem es73:AM Tryz.prog 73=some 126:=by kernel_rfl
@[go_sem] theorem sz79:szOf Tryz.prog 79=some 5:=by kernel_rfl
@[go_sem] theorem by79:AJ Tryz.prog 79=some 88:=by kernel_rfl
@[go_sem] theorem ze79:AL Tryz.prog 79=some (.agg #[(.string ByteArray.empty),(.slice none 0 0),(.int .i64 0),(.string ByteArray.empty),(.slice none 0 0)]):=by kernel_rfl
@[go_sem] theorem sz84:szOf Tryz.prog 84=some 5:=by kernel_rfl
@[go_sem] theorem by84:AJ Tryz.prog 84=some 72:=by kernel_rfl
@[go_sem] theorem ze84:AL Tryz.prog 84=some (.agg #[(.string ByteArray.empty),(.string ByteArray.empty),(.slice none 0 0),(.int .i64 0),(.int .i64 0)]):=by kernel_rfl
@[go_sem] theorem sz92:szOf Tryz.prog 92=some 5:=by kernel_rfl
@[go_sem] theorem by92:AJ Tryz.prog 92=some 72:=by kernel_rfl
@[go_sem] theorem ze92:AL Tryz.prog 92=some (.agg #[(.string ByteArray.empty),(.string ByteArray.empty),(.slice none 0 0),(.int .i64 0),(.int .i64 0)]):=by kernel_rfl
@[go_sem] theorem facts7:AR Tryz.prog 72 2=some (10,41)∧AR Tryz.prog 72 3=some (11,42)∧AM Tryz.prog 72=none∧hasT Tryz.prog 72=true∧AV Tryz.prog 72=false∧Cj Tryz.prog 72=some [(0,9),(9,1),(10,1),(11,1)]∧AJ Tryz.prog 72=some 208∧AL Tryz.prog 72=some (.agg #[(.slice none 0 0),(.int .i64 0),(.string ByteArray.empty),(.string ByteArray.empty),(.slice none 0 0),(.int .i64 0),(.slice none 0 0),(.slice none 0 0),(.int .i64 0),(.bool false),(.slice none 0 0),(.slice none 0 0)])∧szOf Tryz.prog 73=some 1∧AS Tryz.prog 73=some false∧hasT Tryz.prog 73=true∧AV Tryz.prog 73=false∧AJ Tryz.prog 73=some 24∧AL Tryz.prog 73=some (.slice none 0 0)∧AS Tryz.prog 79=some true∧AR Tryz.prog 79 0=some (0,25)∧AR Tryz.prog 79 1=some (3,9)∧AR Tryz.prog 79 2=some (4,23)∧AM Tryz.prog 79=none∧hasT Tryz.prog 79=true∧AV Tryz.prog 79=false∧Cj Tryz.prog 79=some [(0,3),(3,1),(4,1)]∧AS Tryz.prog 84=some true∧AR Tryz.prog 84 0=some (0,9)∧AR Tryz.prog 84 1=some (1,25)∧AR Tryz.prog 84 2=some (4,3)∧AM Tryz.prog 84=none∧hasT Tryz.prog 84=true∧AV Tryz.prog 84=false∧Cj Tryz.prog 84=some [(0,1),(1,3),(4,1)]∧AS Tryz.prog 92=some true∧AR Tryz.prog 92 0=some (0,9)∧AR Tryz.prog 92 1=some (1,25)∧AR Tryz.prog 92 2=some (4,3)∧AM Tryz.prog 92=none∧hasT Tryz.prog 92=true∧AV Tryz.prog 92=false∧Cj Tryz.prog 92=some [(0,1),(1,3),(4,1)]∧szOf Tryz.prog 95=some 1∧AS Tryz.prog 95=some false:=by
 repeat' apply And.intro
 all_goals kernel_rfl
@[go_sem] theorem es96:AM Tryz.prog 96=some 139:=by kernel_rfl
@[go_sem] theorem sz124:szOf Tryz.prog 124=some 3:=by kernel_rfl
@[go_sem] theorem by124:AJ Tryz.prog 124=some 32:=by kernel_rfl
@[go_sem] theorem ze124:AL Tryz.prog 124=some (.agg #[(.bool false),(.string ByteArray.empty),(.int .i64 0)]):=by kernel_rfl
@[go_sem] theorem sz126:szOf Tryz.prog 126=some 7:=by kernel_rfl
@[go_sem] theorem facts8:AM Tryz.prog 95=some 5∧hasT Tryz.prog 95=true∧AV Tryz.prog 95=false∧AJ Tryz.prog 95=some 24∧Iv Tryz.prog 95=true∧AL Tryz.prog 95=some (.slice none 0 0)∧szOf Tryz.prog 96=some 1∧AS Tryz.prog 96=some false∧hasT Tryz.prog 96=true∧AV Tryz.prog 96=false∧AJ Tryz.prog 96=some 24∧AL Tryz.prog 96=some (.slice none 0 0)∧szOf Tryz.prog 101=some 1∧AS Tryz.prog 101=some false∧AM Tryz.prog 101=none∧hasT Tryz.prog 101=true∧AV Tryz.prog 101=false∧Fo Tryz.prog 101=some .u64∧AJ Tryz.prog 101=some 8∧AL Tryz.prog 101=some (.int .u64 0)∧szOf Tryz.prog 116=some 1∧AS Tryz.prog 116=some false∧AM Tryz.prog 116=none∧hasT Tryz.prog 116=true∧AV Tryz.prog 116=false∧AJ Tryz.prog 116=some 0∧AS Tryz.prog 124=some true∧AR Tryz.prog 124 0=some (0,4)∧AR Tryz.prog 124 1=some (1,9)∧AR Tryz.prog 124 2=some (2,3)∧AM Tryz.prog 124=none∧hasT Tryz.prog 124=true∧AV Tryz.prog 124=false∧Cj Tryz.prog 124=some [(0,1),(1,1),(2,1)]∧egOf Tryz.prog 124=false∧KS.of Tryz.prog 124=some (.agg [.boo,.str,(.num .i64)])∧AS Tryz.prog 126=some true∧AR Tryz.prog 126 0=some (0,124)∧AR Tryz.prog 126 1=some (3,124)∧AR Tryz.prog 126 2=some (6,4):=by
 repeat' apply And.intro
 all_goals kernel_rfl
@[go_sem] theorem by126:AJ Tryz.prog 126=some 72:=by kernel_rfl
@[go_sem] theorem ze126:AL Tryz.prog 126=some (.agg #[(.bool false),(.string ByteArray.empty),(.int .i64 0),(.bool false),(.string ByteArray.empty),(.int .i64 0),(.bool false)]):=by kernel_rfl
@[go_sem] theorem sz139:szOf Tryz.prog 139=some 3:=by kernel_rfl
@[go_sem] theorem ag139:AS Tryz.prog 139=some true:=by kernel_rfl
@[go_sem] theorem by139:AJ Tryz.prog 139=some 32:=by kernel_rfl
@[go_sem] theorem ze139:AL Tryz.prog 139=some (.agg #[(.bool false),(.string ByteArray.empty),(.int .i64 0)]):=by kernel_rfl
@[go_sem] theorem facts9:AM Tryz.prog 126=none∧hasT Tryz.prog 126=true∧AV Tryz.prog 126=false∧Cj Tryz.prog 126=some [(0,3),(3,3),(6,1)]∧egOf Tryz.prog 126=false∧KS.of Tryz.prog 126=some (.agg [.boo,.str,(.num .i64),.boo,.str,(.num .i64),.boo])∧AR Tryz.prog 139 0=some (0,4)∧AR Tryz.prog 139 1=some (1,9)∧AR Tryz.prog 139 2=some (2,3)∧AM Tryz.prog 139=none∧hasT Tryz.prog 139=true∧AV Tryz.prog 139=false∧Cj Tryz.prog 139=some [(0,1),(1,1),(2,1)]∧egOf Tryz.prog 139=false∧KS.of Tryz.prog 139=some (.agg [.boo,.str,(.num .i64)])∧szOf Tryz.prog 140=some 1∧AS Tryz.prog 140=some false∧AM Tryz.prog 140=none∧hasT Tryz.prog 140=true∧AV Tryz.prog 140=false∧AJ Tryz.prog 140=some 8∧AL Tryz.prog 140=some .nilFunc∧szOf Tryz.prog 143=some 1∧AS Tryz.prog 143=some false∧AM Tryz.prog 143=none∧hasT Tryz.prog 143=true∧AV Tryz.prog 143=false∧AJ Tryz.prog 143=some 8∧AL Tryz.prog 143=some .nilFunc∧szOf Tryz.prog 149=some 1∧AS Tryz.prog 149=some false∧AM Tryz.prog 149=none∧hasT Tryz.prog 149=true∧AV Tryz.prog 149=false∧AJ Tryz.prog 149=some 8∧AL Tryz.prog 149=some .nilFunc∧szOf Tryz.prog 150=some 1∧AS Tryz.prog 150=some false∧AM Tryz.prog 150=none∧hasT Tryz.prog 150=true:=by
 repeat' apply And.intro
 all_goals kernel_rfl
@[go_sem] theorem es167:AM Tryz.prog 167=some 124:=by kernel_rfl
@[go_sem] theorem es169:AM Tryz.prog 169=some 188:=by kernel_rfl
@[go_sem] theorem facts10:AV Tryz.prog 150=false∧AJ Tryz.prog 150=some 8∧Gs Tryz.prog 150=true∧AL Tryz.prog 150=some (.pointer none)∧szOf Tryz.prog 151=some 1∧AS Tryz.prog 151=some false∧AM Tryz.prog 151=none∧hasT Tryz.prog 151=true∧AV Tryz.prog 151=false∧AJ Tryz.prog 151=some 8∧AL Tryz.prog 151=some .nilFunc∧szOf Tryz.prog 152=some 1∧AS Tryz.prog 152=some false∧AM Tryz.prog 152=none∧hasT Tryz.prog 152=true∧AV Tryz.prog 152=false∧AJ Tryz.prog 152=some 8∧AL Tryz.prog 152=some .nilFunc∧szOf Tryz.prog 167=some 1∧AS Tryz.prog 167=some false∧hasT Tryz.prog 167=true∧AV Tryz.prog 167=false∧AJ Tryz.prog 167=some 24∧AL Tryz.prog 167=some (.slice none 0 0)∧szOf Tryz.prog 169=some 1∧AS Tryz.prog 169=some false∧hasT Tryz.prog 169=true∧AV Tryz.prog 169=false∧AJ Tryz.prog 169=some 24∧AL Tryz.prog 169=some (.slice none 0 0)∧szOf Tryz.prog 179=some 1∧AS Tryz.prog 179=some false∧AM Tryz.prog 179=none∧hasT Tryz.prog 179=true∧AV Tryz.prog 179=false∧Fo Tryz.prog 179=some .u64∧AJ Tryz.prog 179=some 8∧AL Tryz.prog 179=some (.int .u64 0)∧szOf Tryz.prog 182=some 1∧AS Tryz.prog 182=some false:=by
 repeat' apply And.intro
 all_goals kernel_rfl
@[go_sem] theorem sz188:szOf Tryz.prog 188=some 4:=by kernel_rfl
@[go_sem] theorem by188:AJ Tryz.prog 188=some 48:=by kernel_rfl
@[go_sem] theorem ze188:AL Tryz.prog 188=some (.agg #[(.string ByteArray.empty),(.bool false),(.string ByteArray.empty),(.int .i64 0)]):=by kernel_rfl
@[go_sem] theorem facts11:AM Tryz.prog 182=some 23∧hasT Tryz.prog 182=true∧AV Tryz.prog 182=false∧AJ Tryz.prog 182=some 24∧AL Tryz.prog 182=some (.slice none 0 0)∧AS Tryz.prog 188=some true∧AR Tryz.prog 188 0=some (0,9)∧AR Tryz.prog 188 1=some (1,124)∧AM Tryz.prog 188=none∧hasT Tryz.prog 188=true∧AV Tryz.prog 188=false∧Cj Tryz.prog 188=some [(0,1),(1,3)]∧egOf Tryz.prog 188=false∧KS.of Tryz.prog 188=some (.agg [.str,.boo,.str,(.num .i64)])∧szOf Tryz.prog 192=some 1∧AS Tryz.prog 192=some false∧AM Tryz.prog 192=none∧hasT Tryz.prog 192=true∧AV Tryz.prog 192=false∧Fo Tryz.prog 192=some .i64∧AJ Tryz.prog 192=some 8∧AL Tryz.prog 192=some (.int .i64 0)∧szOf Tryz.prog 193=some 1∧AS Tryz.prog 193=some false∧AM Tryz.prog 193=none∧hasT Tryz.prog 193=true∧AV Tryz.prog 193=false∧AJ Tryz.prog 193=some 0∧szOf Tryz.prog 199=some 1∧AS Tryz.prog 199=some false∧AM Tryz.prog 199=none∧hasT Tryz.prog 199=true∧AV Tryz.prog 199=false∧Fo Tryz.prog 199=some .u32∧AJ Tryz.prog 199=some 4∧AL Tryz.prog 199=some (.int .u32 0)∧szOf Tryz.prog 201=some 1∧AS Tryz.prog 201=some false∧AM Tryz.prog 201=some 3∧hasT Tryz.prog 201=true:=by
 repeat' apply And.intro
 all_goals kernel_rfl
@[go_sem] theorem facts12:AV Tryz.prog 201=false∧AJ Tryz.prog 201=some 24∧AL Tryz.prog 201=some (.slice none 0 0)∧szOf Tryz.prog 207=some 1∧AS Tryz.prog 207=some false∧AM Tryz.prog 207=none∧hasT Tryz.prog 207=true∧AV Tryz.prog 207=false∧Fo Tryz.prog 207=some .u64∧AJ Tryz.prog 207=some 8∧AL Tryz.prog 207=some (.int .u64 0)∧szOf Tryz.prog 211=some 1∧AS Tryz.prog 211=some false∧AM Tryz.prog 211=none∧hasT Tryz.prog 211=true∧AV Tryz.prog 211=false∧AJ Tryz.prog 211=some 8∧Gs Tryz.prog 211=true∧AL Tryz.prog 211=some (.pointer none)∧szOf Tryz.prog 215=some 1∧AS Tryz.prog 215=some false∧AM Tryz.prog 215=none∧hasT Tryz.prog 215=true∧AV Tryz.prog 215=false∧AJ Tryz.prog 215=some 8∧Gs Tryz.prog 215=true∧AL Tryz.prog 215=some (.pointer none)∧szOf Tryz.prog 216=some 1∧AS Tryz.prog 216=some false∧AM Tryz.prog 216=none∧hasT Tryz.prog 216=true∧AV Tryz.prog 216=false∧AJ Tryz.prog 216=some 0:=by
 repeat' apply And.intro
 all_goals kernel_rfl
mutual
def count:Ty→Nat→Nat
 | .mk nm xs _,n=>Cg xs (n + 1 + nm.size / 50)
def Cg:List Ty→Nat→Nat
 | [],n=>n
 | t :: r,n=>if n≤2000 then Cg r (count t n) else n
end
theorem Fs (t:Ty) (n:Nat):count t n=Cg t.args (n + 1 + t.name.size / 50):=by cases t; simp[count]
theorem XA {l:List Ty} {n:Nat} (h:2000 < n):Cg l n=n:=by cases l <;> simp[Cg]; omega
def big:Nat:=184467440737097518
mutual
theorem JF:∀ (t:Ty) (n:Nat),okTy t→count t n≤Nat.max n 2000 + big
 | .mk nm xs p,n,h=>by
  simp only[count];simp only[okTy] at h;have h1:n + 1 + nm.size / 50≤Nat.max n 2000 + big:=by
   have:n≤Nat.max n 2000:=Nat.le_max_left ..;unfold big; omega
  have:=L5 xs (n + 1 + nm.size / 50) (Nat.max n 2000) h.2.2 (Nat.le_max_right ..) h1;exact this
theorem L5:∀ (l:List Ty) (n m:Nat),Jg l→2000≤m→n≤m + big→Cg l n≤m + big
 | [],n,m,_,h2,h=>by simpa [Cg] using h
 | t :: r,n,m,hk,h2,h=>by
  simp only[Cg];simp only[Jg] at hk;split
  ·rename_i hn;refine L5 r _ m hk.2 h2 ?_;have:=JF t n hk.1;have:Nat.max n 2000=2000:=Nat.max_eq_right hn;omega
  ·exact h
end
set_option maxRecDepth 10000 in
theorem DZ:∀ (t:Ty),okTy t→∀ (n g d:Nat),n≤4611686018427387904→ACalls E 44 [AC t,dN n] [] g d (dN (count t n)) []:=by
 refine Ty.ind fun t ih=>?_;intro G n g d K;obtain ⟨M,N,p⟩:=(DJ t).1 G;refine Ax 32 Tryz.call44 Tryz.func44 ?_;simp only[go_sem];refine Aa fun _ r=>Ac 2 fun i _=>?_;simp only[go_sem];refine r (Aa fun _ x=>Ac 8 fun _ _=>?_);simp only[go_sem];try simp (disch:=omega) only[Au,dZ]
 refine x (Aa fun _ l=>Aa fun _ y=>Ac 1 fun _ _=>?_);simp only[go_sem];refine y (Ai ?_);refine Ay (fun m s=>∃ k a,k≤t.args.length∧m=t.args.length - k∧a≤4611686018427387904 + big∧Cg (t.args.drop k) a=count t n ∧
   Le { env:=[(1,dN a),(2,.ptr ⟨i,2,0⟩ 0),(5,dN k)],σ:=[(⟨i,2,0⟩,.box 25 (tyC t))] } s) t.args.length ?_ ?_
 ·refine ⟨0,n + 1 + t.name.size / 50,dX _,rfl,by unfold big; omega,by rw[Fs]; rfl,Ao ?_⟩;simp only[go_sem,tyC];omega
 ·rintro m s ⟨k,a,J,rfl,L,b,f⟩;refine Az f ?_;clear f;by_cases c:k < t.args.length
  ·by_cases f:(a : Int)≤2000
   ·refine Aa fun _ z=>Aa fun _ A=>Ac 9 fun j o=>?_;simp only[go_sem,tyC,c,f];refine A (Al (Ae (z (Aa fun _ B=>Ai (Am fun _ _ _ _ h D=>Af 6 h ?_)))));simp only[go_sem,getM c];refine AA h rfl rfl rfl (ih _ (dP _) (p _ (dP _)) a _ _ (by omega)) (CoL.refl _) ?_;refine Ad 1 h ?_;simp only[go_sem];refine D (B (Ac 3 fun _ _=>?_));simp only[go_sem];try simp (disch:=omega) only[Au]
    have e:Cg (t.args.drop k) a=Cg (t.args.drop (k + 1)) (count t.args[k] a):=by
     rw[ek c]; simp only[Cg]; rw[if_pos (by omega)]
    have H:=JF t.args[k] a (p _ (dP _));have I:Nat.max a 2000≤4611686018427387904:=Nat.max_le.2 ⟨by omega,by omega⟩;refine ⟨_,?_,k + 1,count t.args[k] a,c,rfl,?_,by rw[← e]; exact b,Ao ?_⟩
    ·omega
    ·omega
    simp only[go_sem,tyC];omega
   ·refine Aa fun _ _=>Aa fun _ C=>Ac 9 fun j o=>?_;simp only[go_sem,tyC,c,f];refine C ?_;rw[XA (by omega)] at b;subst b;refine Aj (Aq (l (Aa fun _ u=>Ac 2 fun q F=>?_)));simp only[go_sem];refine u (Ah (Ag ?_));simp only[go_sem];exact Co.refl _
  ·refine Aa fun _ _=>Aa fun _ v=>Ac 9 fun j o=>?_;simp only[go_sem,tyC,c];refine v ?_;rw[fp (by omega)] at b;simp only[Cg] at b;subst b;refine Aj (Aq (l (Aa fun _ w=>Ac 2 fun q F=>?_)));simp only[go_sem];refine w (Ah (Ag ?_));simp only[go_sem];exact Co.refl _
def cmpL:List UInt8→List UInt8→Int
 | [],[]=>0
 | [],_ :: _=>-1
 | _ :: _,[]=>1
 | a :: x,b :: y=>if a < b then -1 else if b < a then 1 else cmpL x y
def cmpS (a b:Str):Int:=cmpL a.data.toList b.data.toList
theorem Q5:∀ {x y:List UInt8},cmpL x y=0↔x=y
 | [],[]=>by simp[cmpL]
 | [],_ :: _=>by simp[cmpL]
 | _ :: _,[]=>by simp[cmpL]
 | a :: x,b :: y=>by
  simp only[cmpL];split
  ·rename_i h; simp; rintro rfl; exact absurd h (by simp)
  ·split
   ·rename_i h; simp; rintro rfl; exact absurd h (by simp)
   ·rename_i h1 h2;have:a=b:=by
     apply UInt8.le_antisymm
     ·exact UInt8.not_lt.1 h2
     ·exact UInt8.not_lt.1 h1
    subst this;simp[Q5 (x:=x) (y:=y)]
theorem CE {a b:Str}:cmpS a b=0↔a=b:=by
 unfold cmpS;rw[Q5,Array.toList_inj];constructor
 ·intro h; cases a; cases b; simp_all
 ·rintro rfl; rfl
theorem Fb {s:Str} {k:Nat} (h:k < s.size):s[k]?=some (s.data.toList[k]'h):=by
 have:s[k]?=some s[k]:=getElem?_pos s k h;rw[this]; rfl
theorem Q6:∀ (x y:List UInt8),Op.bytesLess x y=decide (cmpL x y=-1)
 | [],[]=>by simp[Op.bytesLess,cmpL]
 | [],_ :: _=>by simp[Op.bytesLess,cmpL]
 | _ :: _,[]=>by simp[Op.bytesLess,cmpL]
 | a :: x,b :: y=>by
  simp only[Op.bytesLess,cmpL];by_cases h1:a < b
  ·simp[h1]
  ·by_cases h2:b < a
   ·simp[h1,h2]; intro h; subst h; simp at h2
   ·have:a=b:=UInt8.le_antisymm (UInt8.not_lt.1 h2) (UInt8.not_lt.1 h1);subst this;simp[h1,Q6 x y]
theorem Pl:∀ (x y:List UInt8),cmpL x y=-1∨cmpL x y=0∨cmpL x y=1
 | [],[]=>by simp[cmpL]
 | [],_ :: _=>by simp[cmpL]
 | _ :: _,[]=>by simp[cmpL]
 | a :: x,b :: y=>by
  simp only[cmpL];split
  ·simp
  ·split
   ·simp
   ·exact Pl x y
theorem Jh (a b:Str):Op.bytesLess a.toList b.toList=decide (cmpS a b=-1):=by
 rw[Q6,ByteArray.toList_eq,ByteArray.toList_eq]; rfl
set_option maxRecDepth 10000 in
theorem BZ (a b:Str) (ha:a.size≤9223372036854775807) (g d:Nat) :
  ACalls E 60 [encS a,encS b] [] g d (dI (cmpS a b)) []:=by
 refine Ax 42 Tryz.call60 Tryz.func60 ?_;simp only[go_sem];refine Aa fun _ J=>Ac 1 fun _ _=>?_;simp only[go_sem];refine J (Aa fun _ w=>Aa fun _ W=>Ac 1 fun _ _=>?_);simp only[go_sem];refine W (Ai ?_);refine Ay (fun m s=>∃ k,k≤a.size∧k≤b.size∧m=a.size - k∧cmpL (a.data.toList.drop k) (b.data.toList.drop k)=cmpS a b ∧
   Le { env:=[(0,encS a),(1,encS b),(5,dN k)],σ:=[] } s) a.size ?_ ?_
 ·refine ⟨0,dX _,dX _,rfl,rfl,Ao ?_⟩;simp only[go_sem];trivial
 ·rintro m s ⟨k,a7,a8,rfl,c,B⟩;refine Az B ?_;clear B;by_cases ha:k < a.size
  ·by_cases e:k < b.size
   ·rw[ek (show k < a.data.toList.length from ha),ek (show k < b.data.toList.length from e)] at c;simp only[cmpL] at c;refine Aa fun _ X=>Aa fun _ Y=>Ac 10 fun t z=>?_;simp only[go_sem,ha,e];refine Y (Al (Ae (X (Aa fun _ Z=>Ai (Aa fun _ a0=>Aa fun _ y=>?_)))));have h0:(0:Int)≤k:=by omega
    by_cases f:a.data.toList[k] < b.data.toList[k]
    ·rw[if_pos f] at c;have j : (a.data.toList[k].toNat:Int) < b.data.toList[k].toNat:=by exact_mod_cast UInt8.lt_iff_toNat_lt.1 f
     refine AE fun G a3 a5 C q o=>Ap 7 q ?_;simp only[go_sem,h0,Fb ha,Fb e,j];refine o (y (Al (Aa fun _ a1=>Ac 1 fun _ _=>?_)));simp only[go_sem];refine a1 (Ah ?_);rw[← c];refine Ag ?_;simp only[go_sem];exact Co.refl _
    ·rw[if_neg f] at c;have j : ¬ (a.data.toList[k].toNat:Int) < b.data.toList[k].toNat:=fun h=>f (UInt8.lt_iff_toNat_lt.2 (by exact_mod_cast h));refine AE fun G a3 a5 C q o=>Ap 7 q ?_;simp only[go_sem,h0,Fb ha,Fb e,j];refine o (y (Aj (Ae (a0 (Aa fun _ v=>?_)))));by_cases i:b.data.toList[k] < a.data.toList[k]
     ·rw[if_pos i] at c;have l : (b.data.toList[k].toNat:Int) < a.data.toList[k].toNat:=by exact_mod_cast UInt8.lt_iff_toNat_lt.1 i
      refine AE fun H a4 a6 D r p=>Ap 7 r ?_;simp only[go_sem,h0,Fb ha,Fb e,l];refine p (v (Al (Aa fun _ K=>Ac 1 fun _ _=>?_)));simp only[go_sem];refine K (Ah ?_);rw[← c];refine Ag ?_;simp only[go_sem];exact Co.refl _
     ·rw[if_neg i] at c;have l : ¬ (b.data.toList[k].toNat:Int) < a.data.toList[k].toNat:=fun h=>i (UInt8.lt_iff_toNat_lt.2 (by exact_mod_cast h));refine AE fun H a4 a6 D r p=>Ap 7 r ?_;simp only[go_sem,h0,Fb ha,Fb e,l];refine p (v (Aj (Ae (Z (Ac 3 fun _ _=>?_)))));simp only[go_sem];try simp (disch:=omega) only[Au]
      refine ⟨_,?_,k + 1,ha,e,rfl,c,Ao ?_⟩
      ·omega
      simp only[go_sem];omega
   ·have:k=b.size:=by omega
    subst this;rw[ek (show b.size < a.data.toList.length from ha),fp (show b.data.toList.length≤b.size from ec _)] at c;simp only[cmpL] at c;have I:¬ a.size < b.size:=by omega
    have n:b.size < a.size:=ha;refine Aa fun _ _=>Aa fun _ L=>Ac 10 fun t z=>?_;simp only[go_sem,ha,e];refine L (Aj (Aq (w (Aa fun _ M=>Aa fun _ N=>Ac 5 fun u A=>?_))));simp only[go_sem,I];refine N (Aj (Ae (M (Aa fun _ _=>Aa fun _ O=>Ac 5 fun F a2=>?_))));simp only[go_sem,n];refine O (Al (Aa fun _ P=>Ac 1 fun _ _=>?_));simp only[go_sem];refine P (Ah ?_);rw[← c];refine Ag ?_;simp only[go_sem];exact Co.refl _
  ·have:k=a.size:=by omega
   subst this;rw[fp (show a.data.toList.length≤a.size from ec _)] at c;refine Aa fun _ _=>Aa fun _ Q=>Ac 10 fun t z=>?_;simp only[go_sem,ha];refine Q (Aj (Aq (w (Aa fun _ R=>Aa fun _ x=>?_))));by_cases e:a.size < b.size
   ·rw[ek (show a.size < b.data.toList.length from e)] at c;simp only[cmpL] at c;refine Ac 5 fun u A=>?_;simp only[go_sem,e];refine x (Al (Aa fun _ S=>Ac 1 fun _ _=>?_));simp only[go_sem];refine S (Ah ?_);rw[← c];refine Ag ?_;simp only[go_sem];exact Co.refl _
   ·have n:¬ b.size < a.size:=by omega
    rw[fp (show b.data.toList.length≤a.size from (by show b.size≤a.size; omega))] at c;simp only[cmpL] at c;refine Ac 5 fun u A=>?_;simp only[go_sem,e];refine x (Aj (Ae (R (Aa fun _ T=>Aa fun _ U=>Ac 5 fun F a2=>?_))));simp only[go_sem,n];refine U (Aj (Ae (T (Aa fun _ V=>Ac 1 fun _ _=>?_))));simp only[go_sem];refine V (Ah ?_);rw[← c];refine Ag ?_;simp only[go_sem];exact Co.refl _
theorem Nw (a:Str) (g d:Nat):ACalls E 172 [encS a] [] g d (dB false) []:=by
 refine Ax 6 Tryz.call172 Tryz.func172 ?_;simp only[go_sem];refine Aa fun _ b=>Ac 1 fun _ _=>?_;simp only[go_sem];refine b (Aa fun _ c=>Ac 4 fun _ _=>?_);simp only[go_sem];refine c (Ah (Ag ?_));simp only[go_sem];exact Co.refl _
theorem Oi (a b:Str) (g d:Nat):ACalls E 159 [encS a,encS b] [] g d (dI (cmpS a b)) []:=by
 refine Ax 20 Tryz.call159 Tryz.func159 ?_;simp only[go_sem];refine Aa fun _ o=>Ac 1 fun _ _=>?_;simp only[go_sem];refine o (Aa fun _ t=>Am fun _ _ _ _ i A=>Af 1 i ?_);simp only[go_sem];refine Ak i (Nw _ _ _) ?_;refine Ad 1 i ?_;simp only[go_sem];refine A (t (Aa fun _ u=>Am fun _ _ _ _ j B=>Af 1 j ?_));simp only[go_sem];refine Ak j (Nw _ _ _) ?_;refine Ad 1 j ?_;simp only[go_sem];refine B (u (Aa fun _ v=>Aa fun _ w=>Ac 1 fun _ _=>?_));simp only[go_sem];refine w (Aj (Ae (v (Aa fun _ x=>Aa fun _ y=>Ac 1 fun _ _=>?_))));simp only[go_sem];refine y (Aj (Ae (x (Aa fun _ z=>Aa fun _ l=>?_))))
 by_cases h:cmpS a b=-1
 ·refine Ac 3 fun n D=>?_;simp only[go_sem,Jh,h];refine l (Al (Aa fun _ p=>Ac 1 fun _ _=>?_));simp only[go_sem];refine p (Ah ?_);rw[h];refine Ag ?_;simp only[go_sem];exact Co.refl _
 ·refine Ac 3 fun n D=>?_;simp only[go_sem,Jh,h];refine l (Aj (Ae (z (Aa fun _ q=>Aa fun _ k=>?_))));by_cases e:a=b
  ·have f:cmpS a b=0:=CE.2 e;subst e;refine Ac 3 fun m C=>?_;simp only[go_sem,Jh,h];refine k (Aj (Ae (q (Aa fun _ r=>Ac 1 fun _ _=>?_))));simp only[go_sem];refine r (Ah ?_);rw[f];refine Ag ?_;simp only[go_sem];exact Co.refl _
  ·have f:cmpS a b=1:=by
    rcases Pl a.data.toList b.data.toList with c | c | c
    ·exact absurd c h
    ·exact absurd (CE.1 c) e
    ·exact c
   refine Ac 3 fun m C=>?_;simp only[go_sem,Jh,h,e];refine k (Al (Aa fun _ s=>Ac 1 fun _ _=>?_));simp only[go_sem];refine s (Ah ?_);rw[f];refine Ag ?_;simp only[go_sem];exact Co.refl _
theorem Nn (a b:Str) (g d:Nat):ACalls E 139 [encS a,encS b] [] g d (dI (cmpS a b)) []:=by
 refine Ax 8 Tryz.call139 Tryz.func139 ?_;simp only[go_sem];refine Aa fun _ e=>Ac 1 fun _ _=>?_;simp only[go_sem];refine e (Aa fun _ f=>Am fun _ _ _ _ c h=>Af 2 c ?_);simp only[go_sem];refine Ak c (Oi _ _ _ _) ?_;refine Ad 1 c ?_;simp only[go_sem];refine h (f (Ah (Ag ?_)));simp only[go_sem];exact Co.refl _
mutual
def BK:Ty→Ty→Int
 | .mk a x _,.mk b y _=>if cmpS a b=0 then Em x y else cmpS a b
def Em:List Ty→List Ty→Int
 | [],[]=>0
 | [],_ :: _=>-1
 | _ :: _,[]=>1
 | t :: x,u :: y=>if BK t u=0 then Em x y else BK t u
end
theorem Y8 (t u:Ty):BK t u=if cmpS t.name u.name=0 then Em t.args u.args else cmpS t.name u.name:=by cases t; cases u; rw[BK]; rfl
theorem En:∀ t:Ty,okTy t→∀ (u:Ty) (g d:Nat),ACalls E 86 [AC t,AC u] [] g d (dI (BK t u)) []:=by
 refine Ty.ind fun t ih=>?_;intro ht u g d;obtain ⟨a4,a9,a5⟩:=(DJ t).1 ht;rw[Y8];refine Ax 59 Tryz.call86 Tryz.func86 ?_;simp only[go_sem];refine Aa fun _ F=>Ac 3 fun f _=>?_;simp only[go_sem];refine F (Aa fun _ M=>Aa fun _ v=>?_);by_cases e:t.name=u.name
 ·have i:=CE.2 e;refine Ac 5 fun A a1=>?_;simp only[go_sem,e];refine v (Aj (Ae (M (Aa fun _ w=>Aa fun _ U=>Ac 1 fun _ _=>?_))));simp only[go_sem];refine U (Ai ?_);refine Ay (fun m s=>∃ k,k≤t.args.length∧k≤u.args.length∧m=t.args.length - k∧Em (t.args.drop k) (u.args.drop k)=Em t.args u.args ∧
   Le { env:=[(2,.ptr ⟨f,2,0⟩ 0),(3,.ptr ⟨f,3,0⟩ 0),(5,dN k)],σ:=[(⟨f,2,0⟩,.box 25 (tyC t)),(⟨f,3,0⟩,.box 25 (tyC u))] } s) t.args.length ?_ ?_
  ·refine ⟨0,dX _,dX _,rfl,rfl,Ao ?_⟩;simp only[go_sem,tyC,e];trivial
  ·rintro m s ⟨k,a7,a8,rfl,a,z⟩;refine Az z ?_;clear z;by_cases b:k < t.args.length
   ·by_cases c:k < u.args.length
    ·rw[ek b,ek c] at a;simp only[Em] at a;refine Aa fun _ V=>Aa fun _ W=>Ac 12 fun o x=>?_;simp only[go_sem,tyC,b,c];refine W (Al (Ae (V (Aa fun _ X=>Ai (Aa fun _ Y=>AF 11 fun _ _ _ _ j a0=>Av 10 j ?_)))));simp only[go_sem,getM b,getM c];refine Aw j (ih _ (dP b) (a5 _ (dP b)) _ _ _) ?_;refine Ap 0 j ?_;simp only[go_sem];refine Ad 1 j ?_;simp only[go_sem];refine a0 (Y (Aa fun _ q=>?_));by_cases h0:BK t.args[k] u.args[k]=0
     ·rw[if_pos h0] at a;refine Ac 2 fun C a3=>?_;simp only[go_sem,h0];refine q (Aj (Ae (X (Ac 3 fun _ _=>?_))));simp only[go_sem];try simp (disch:=omega) only[Au]
      refine ⟨_,?_,k + 1,b,c,rfl,a,Ao ?_⟩
      ·omega
      simp only[go_sem,tyC];omega
     ·rw[if_neg h0] at a;refine Ac 2 fun C a3=>?_;simp only[go_sem,h0];refine q (Al (Aa fun _ G=>Ac 2 fun _ _=>?_));simp only[go_sem];refine G (Ah ?_);rw[if_pos i,← a];refine Ag ?_;simp only[go_sem];exact Co.refl _
    ·rw[ek b,DF u.args k (by omega)] at a;simp only[Em] at a;have D:¬ t.args.length < u.args.length:=by omega
     have l:u.args.length < t.args.length:=by omega
     refine Aa fun _ _=>Aa fun _ H=>Ac 12 fun o x=>?_;simp only[go_sem,tyC,b,c];refine H (Aj (Aq (w (Aa fun _ I=>Aa fun _ J=>Ac 7 fun p y=>?_))));simp only[go_sem,D];refine J (Aj (Ae (I (Aa fun _ _=>Aa fun _ K=>Ac 7 fun B a2=>?_))));simp only[go_sem,l];refine K (Al (Aa fun _ L=>Ac 1 fun _ _=>?_));simp only[go_sem];refine L (Ah ?_);rw[if_pos i,← a];refine Ag ?_;simp only[go_sem];exact Co.refl _
   ·have:k=t.args.length:=by omega
    subst this;rw[fp (ec _)] at a;refine Aa fun _ _=>Aa fun _ N=>Ac 12 fun o x=>?_;simp only[go_sem,tyC,b];refine N (Aj (Aq (w (Aa fun _ O=>Aa fun _ r=>?_))));by_cases c:t.args.length < u.args.length
    ·rw[ek c] at a;simp only[Em] at a;refine Ac 7 fun p y=>?_;simp only[go_sem,c];refine r (Al (Aa fun _ P=>Ac 1 fun _ _=>?_));simp only[go_sem];refine P (Ah ?_);rw[if_pos i,← a];refine Ag ?_;simp only[go_sem];exact Co.refl _
    ·rw[fp (by omega)] at a;simp only[Em] at a;have l:¬ u.args.length < t.args.length:=by omega
     refine Ac 7 fun p y=>?_;simp only[go_sem,c];refine r (Aj (Ae (O (Aa fun _ Q=>Aa fun _ R=>Ac 7 fun B a2=>?_))));simp only[go_sem,l];refine R (Aj (Ae (Q (Aa fun _ S=>Ac 1 fun _ _=>?_))));simp only[go_sem];refine S (Ah ?_);rw[if_pos i,← a];refine Ag ?_;simp only[go_sem];exact Co.refl _
 ·refine Ac 5 fun A a1=>?_;simp only[go_sem,e];refine v (Al (Aa fun _ T=>Am fun _ _ _ _ n Z=>Af 4 n ?_));simp only[go_sem];refine Ak n (BZ _ _ a4 _ _) ?_;refine Ad 1 n ?_;simp only[go_sem];refine Z (T (Ah ?_));rw[if_neg (fun h=>e (CE.1 h))];refine Ag ?_;simp only[go_sem];exact Co.refl _
theorem CM (t u:Ty) (ht:okTy t) (g d:Nat):ACalls E 95 [AC t,AC u] [] g d (dB (decide (BK t u=0))) []:=by
 refine Ax 9 Tryz.call95 Tryz.func95 ?_;simp only[go_sem];refine Aa fun _ b=>Ac 3 fun _ _=>?_;simp only[go_sem];refine b (Aa fun _ c=>Am fun _ _ _ _ a e=>Af 2 a ?_);simp only[go_sem];refine Ak a (En _ ht _ _ _) ?_;refine Ad 2 a ?_;simp only[go_sem];refine e (c (Ah (Ag ?_)));simp only[go_sem];exact Co.refl _
mutual
def eqTy:Ty→Ty→Bool
 | .mk a x p,.mk b y q=>decide (a=b) && (decide (p=q) && Fj x y)
def Fj:List Ty→List Ty→Bool
 | [],[]=>true
 | [],_ :: _=>false
 | _ :: _,[]=>false
 | t :: x,u :: y=>eqTy t u && Fj x y
end
theorem aay (t u:Ty):eqTy t u=(decide (t.name=u.name) && (decide (t.pos=u.pos) && Fj t.args u.args)):=by cases t; cases u; rw[eqTy]; rfl
mutual
theorem Y9:∀ (t u:Ty),eqTy t u=true↔t=u
 | .mk a x p,.mk b y q=>by
  simp only[eqTy,L6 x y,ej,decide_eq_true_eq,Ty.mk.injEq];constructor
  ·rintro ⟨rfl,rfl,rfl⟩; exact ⟨rfl,rfl,rfl⟩
  ·rintro ⟨rfl,rfl,rfl⟩; exact ⟨rfl,rfl,rfl⟩
theorem L6:∀ (x y:List Ty),Fj x y=true↔x=y
 | [],[]=>by simp[Fj]
 | [],_ :: _=>by simp[Fj]
 | _ :: _,[]=>by simp[Fj]
 | t :: x,u :: y=>by simp[Fj,Y9 t u,L6 x y]
end
theorem S2 {x y:List Ty} (h:x.length≠y.length):Fj x y=false:=by
 cases a:Fj x y with
 | false=>rfl
 | true=>exact absurd (congrArg List.length ((L6 x y).1 a)) h
theorem Ga:∀ t:Ty,okTy t→∀ (u:Ty) (g d:Nat),ACalls E 115 [AC t,AC u] [] g d (dB (eqTy t u)) []:=by
 refine Ty.ind fun t ih=>?_;intro T u g d;obtain ⟨W,X,y⟩:=(DJ t).1 T;rw[aay];refine Ax 46 Tryz.call115 Tryz.func115 ?_;simp only[go_sem];refine Aa fun _ C=>Ac 3 fun h _=>?_;simp only[go_sem];refine C (Aa fun _ K=>Aa fun _ i=>?_);by_cases c:t.name=u.name
 ·by_cases f:t.pos=u.pos
  ·by_cases S:t.args.length=u.args.length
   ·have q : (t.args.length:Int)=u.args.length:=by omega
    refine Ac 21 fun l p=>?_;simp only[go_sem,c,f,q];refine i (Aj (Ae (K (Aa fun _ L=>Aa fun _ M=>Ac 1 fun _ _=>?_))));simp only[go_sem];refine M (Ai ?_);refine Ay (fun m s=>∃ k,k≤t.args.length∧m=t.args.length - k∧Fj (t.args.drop k) (u.args.drop k)=Fj t.args u.args ∧
     Le { env:=[(2,.ptr ⟨h,2,0⟩ 0),(3,.ptr ⟨h,3,0⟩ 0),(5,dN k)],σ:=[(⟨h,2,0⟩,.box 25 (tyC t)),(⟨h,3,0⟩,.box 25 (tyC u))] } s) t.args.length ?_ ?_
    ·refine ⟨0,dX _,rfl,rfl,Ao ?_⟩;simp only[go_sem,tyC,c,f];trivial
    ·rintro m s ⟨k,V,rfl,b,x⟩;refine Az x ?_;clear x;by_cases a:k < t.args.length
     ·have o:k < u.args.length:=by omega
      rw[ek a,ek o] at b;simp only[Fj] at b;refine Aa fun _ N=>Aa fun _ O=>Ac 5 fun A Q=>?_;simp only[go_sem,tyC,a];refine O (Al (Ae (N (Aa fun _ P=>Ai (Aa fun _ v=>?_)))));cases j:eqTy t.args[k] u.args[k] with
      | true =>
       rw[j,gk] at b;refine AE fun B R U z e n=>Av 10 e ?_;simp only[go_sem,getM a,getM o];refine Aw e (j ▸ ih _ (dP a) (y _ (dP a)) _ _ _) ?_;refine Ap 1 e ?_;simp only[go_sem];refine n (v (Aj (Ae (P (Ac 3 fun _ _=>?_)))));simp only[go_sem];try simp (disch:=omega) only[Au]
       refine ⟨_,?_,k + 1,a,rfl,b,Ao ?_⟩
       ·omega
       simp only[go_sem,tyC];omega
      | false =>
       rw[j,fc] at b;refine AE fun B R U z e n=>Av 10 e ?_;simp only[go_sem,getM a,getM o];refine Aw e (j ▸ ih _ (dP a) (y _ (dP a)) _ _ _) ?_;refine Ap 1 e ?_;simp only[go_sem];refine n (v (Al (Aa fun _ D=>Ac 1 fun _ _=>?_)));simp only[go_sem];refine D (Ah ?_);simp only[c,f,← b,decide_true,fN];refine Ag ?_;simp only[go_sem];exact Co.refl _
     ·rw[fp (by omega),fp (by omega)] at b;simp only[Fj] at b;refine Aa fun _ _=>Aa fun _ F=>Ac 5 fun A Q=>?_;simp only[go_sem,tyC,a];refine F (Aj (Aq (L (Aa fun _ G=>Ac 1 fun _ _=>?_))));simp only[go_sem];refine G (Ah ?_);simp only[c,f,← b,decide_true,gL];refine Ag ?_;simp only[go_sem];exact Co.refl _
   ·have q : ¬ ((t.args.length:Int)=u.args.length):=by omega
    refine Ac 21 fun l p=>?_;simp only[go_sem,c,f,q];refine i (Al (Aa fun _ H=>Ac 1 fun r w=>?_));simp only[go_sem];refine H (Ah ?_);simp only[S2 S,fN];refine Ag ?_;simp only[go_sem];exact Co.refl _
  ·refine Ac 21 fun l p=>?_;simp only[go_sem,c,f];refine i (Al (Aa fun _ I=>Ac 1 fun r w=>?_));simp only[go_sem];refine I (Ah ?_);simp only[f,decide_false,fN,fc];refine Ag ?_;simp only[go_sem];exact Co.refl _
 ·refine Ac 21 fun l p=>?_;simp only[go_sem,c];refine i (Al (Aa fun _ J=>Ac 1 fun r w=>?_));simp only[go_sem];refine J (Ah ?_);simp only[c,decide_false,fc];refine Ag ?_;simp only[go_sem];exact Co.refl _
theorem BA (l:List Formal) (hl:l.length≤1000000) (g d:Nat):ACalls E 50 [slFm l] [] g d (slS (l.map (·.name))) []:=by
 refine Ax 20 Tryz.call50 Tryz.func50 ?_;simp only[go_sem];refine Aa fun _ o=>Ac 1 fun _ _=>?_;simp only[go_sem];refine o (Aa fun _ q=>Ac 1 fun _ _=>?_);simp only[go_sem];refine q (Aa fun _ r=>Aa fun _ t=>Ac 1 fun _ _=>?_);simp only[go_sem];refine t (Ai ?_);refine Bh 3 9 1 rfl fun n _=>?_;refine Ay (fun m s=>∃ k a i,k≤l.length∧m=l.length - k ∧
   Le { env:=[(0,slFm l),(4,dN k),(3,.own ⟨a,i,0⟩ k)],σ:=[(⟨a,i,0⟩,.arr 9 1 ((l.take k).map fun f=>encS f.name))] } s) l.length ?_ ?_
 ·refine ⟨0,n,0,dX _,rfl,Ao ?_⟩;simp only[go_sem];trivial
 ·rintro m s ⟨k,a,i,A,rfl,c⟩;refine Az c ?_;clear c;by_cases h:k < l.length
  ·refine Aa fun _ u=>Aa fun _ v=>Ac 4 fun e z=>?_;simp only[go_sem,h];refine v (Al (Ae (u (Aa fun _ w=>Ai (Am fun j _ _ _ b y=>Af 7 b ?_)))));simp only[go_sem,getM h];refine AG b rfl rfl rfl rfl rfl es44 sz9 by9 ze9 rfl (by decide) ?_;simp only[go_sem,eG (ga h)];first | refine ⟨⟨by omega,by omega⟩,?_⟩ | skip
   refine Ad 1 b ?_;simp only[go_sem];refine y (w (Ac 3 fun _ _=>?_));simp only[go_sem];try simp (disch:=omega) only[Au]
   refine ⟨_,?_,k + 1,j,18,h,rfl,Ao ?_⟩
   ·omega
   simp only[go_sem,← HW _ h];omega
  ·refine Aa fun _ _=>Aa fun _ x=>Ac 4 fun e z=>?_;simp only[go_sem,h];refine x (Aj (Aq (r (Aa fun _ p=>Ac 2 fun _ _=>?_))));simp only[go_sem];refine p (Ah ?_);have:k=l.length:=by omega
   subst this;refine AY ⟨a,i,0⟩ ?_;simp only[go_sem];refine Ag ?_;simp only[go_sem];exact Co.of_eq (by simp[fq,encS])
end Go.Proofs.T
