/- A part of the proof: ZAR. -/
import Derived.Test.YtnkpcgpmgkaakaaGreatZAQ
namespace Go.Proofs.T
open Go Go.Ab Go.RowKit
structure DN (p:Prg) (l:List Str):Prop where
 nodup:l.Nodup
 mem:∀ x∈l,x∈p.decls.map (·.name)
theorem DN.nil (p:Prg):DN p []:=⟨iu,fun _ h=>nomatch h⟩
theorem TF {p:Prg} {n:Str} {j:Nat} (h:CF p n=some j):∃ hj:j < p.decls.length,p.decls[j].name=n∧(p.decls[j].kind=1∨p.decls[j].kind=2)∧tyDe p n=some p.decls[j]:=by
 obtain ⟨hj,c⟩:=EE h;obtain ⟨d,a,_⟩:=eU.1 h;unfold isDe at a;have b:=of_decide_eq_true a;exact ⟨hj,b.2,b.1,c⟩
theorem OA {p:Prg} {n:Str} (h:AU p n≠0):n∈p.decls.map (·.name):=by
 cases a:CF p n with
 | none =>
  have:=ED a;simp[AU,this,BM] at h
 | some j =>
  obtain ⟨c,b,_⟩:=TF a;exact eh.2 ⟨_,dP c,b⟩
theorem DN.put {p:Prg} {l:List Str} (h:DN p l) {n:Str} (hn:n∈p.decls.map (·.name)):DN p (putS l n) :=
 ⟨KZ l n h.nodup,fun x hx=>((IU l n x).1 hx).elim (fun e=>e ▸ hn) (h.mem x)⟩
theorem DN.len {p:Prg} {l:List Str} (h:DN p l):l.length≤p.decls.length:=by
 have:=Jo l (p.decls.map (·.name)) h.nodup h.mem;rwa [ei] at this
mutual
noncomputable def FJ (p:Prg):Ty→List Str→List Str
 | .mk n a _,l=>if AU p n=1 then Kf p a (putS l n) else l
noncomputable def Kf (p:Prg):List Ty→List Str→List Str
 | [],l=>l
 | t :: r,l=>Kf p r (FJ p t l)
end
theorem OB (p:Prg) (t:Ty) (l:List Str):FJ p t l=if AU p t.name=1 then Kf p t.args (putS l t.name) else l:=by
 cases t;rw[FJ]
 rfl
theorem Jq (p:Prg):∀ (r:List Ty) (l:List Str),Kf p r l=r.foldl (fun l t=>FJ p t l) l
 | [],_=>by rw[Kf]; rfl
 | t :: r,l=>by rw[Kf,Jq p r]; rfl
theorem TG (p:Prg):∀ (t:Ty) (l:List Str),DN p l→DN p (FJ p t l):=by
 refine Ty.ind fun t ih l h=>?_;rw[OB];split
 ·rename_i b;rw[Jq];have a:=h.put (OA (p:=p) (n:=t.name) (by rw[b]; decide));generalize putS l t.name=m at *;generalize t.args=r at *;clear h b;induction r generalizing m with
  | nil=>exact a
  | cons x r d =>
   rw[fz];exact d _ (ih x dY _ a) (fun y c=>ih y (ea _ c))
 ·exact h
theorem DN.sz {p:Prg} (h:smPr p) {l:List Str} (hl:DN p l):l.length≤2000∧∀ x∈l,x.size≤1000000:=by
 refine ⟨ef hl.len h.1.1,fun x b=>?_⟩;obtain ⟨d,a,rfl⟩:=eh.1 (hl.mem x b);exact (h.1.2 d a).1
theorem DY {α β:Type} (f:β→α→β) (l:List α) (k:Nat) (h:k < l.length) (b:β):(l.take (k + 1)).foldl f b=f ((l.take k).foldl f b) l[k]:=by
 rw[ep,dO h,eQ]
 rfl
theorem Na {α:Type} (p:Prg) (f:List Str→α→List Str) (hf:∀ l a,DN p l→DN p (f l a)):∀ (r:List α) (l:List Str),DN p l→DN p (r.foldl f l)
 | [],_,h=>h
 | a :: r,_,h=>Na p f hf r _ (hf _ a h)
set_option maxHeartbeats 1000000 in
theorem PO (p:Prg) (h:smPr p):∀ t:Ty,smTy t→∀ (l:List Str),DN p l→∀ g d,ACalls E 164 [AZ p,AC t,slS l] [] g d (slS (FJ p t l)) []:=by
 refine Ty.ind fun t ih Y l y g d=>?_;obtain ⟨t1,t2,t3⟩:=(Bi t).1 Y;have w:=Eg p t.name h.1.1;have X:=y.sz h;have o:=OB p t l;refine Ax 34 Tryz.call164 Tryz.func164 ?_;simp only[go_sem];refine Aa fun _ B=>Ac 3 fun i _=>?_;simp only[go_sem];refine B (Aa fun _ F=>Aa fun _ r=>Am fun _ _ _ _ e v=>Af 3 e ?_);simp only[go_sem];by_cases c:AU p t.name=1
 ·rw[if_pos c,Jq] at o;have V:=y.put (OA (p:=p) (n:=t.name) (by rw[c]; decide));refine Ak e (w _ _) ?_;refine Ad 1 e ?_;simp only[go_sem,c];refine v (r (Aj (Ae (F (Aa fun _ G=>Am fun _ _ _ _ q L=>Af 3 q ?_)))));simp only[go_sem];refine AA q rfl rfl rfl (EG l (by omega) t.name (by omega) (fun x Z=>by have:=X.2 x Z; omega) _ _) (CoL.refl _) ?_;refine Ad 1 q ?_;simp only[go_sem];refine L (G (Aa fun _ H=>Aa fun _ I=>Ac 1 fun _ _=>?_));simp only[go_sem];refine I (Ai ?_);generalize putS l t.name=M at *
  refine Ay (fun m s=>∃ k,k≤t.args.length∧m=t.args.length - k∧Le { env:=[(2,slS ((t.args.take k).foldl (fun l t=>FJ p t l) M)),(3,.ptr ⟨i,3,0⟩ 0),(4,.ptr ⟨i,4,0⟩ 0),(7,dN k)],σ:=[(⟨i,3,0⟩,.box 30 (prC p)),(⟨i,4,0⟩,.box 25 (tyC t))] } s) t.args.length ?_ ?_
  ·refine ⟨0,dX _,rfl,Ao ?_⟩;simp only[go_sem,tyC];all_goals first|trivial|omega
  ·rintro m s ⟨k,hk,rfl,z⟩;refine Az z ?_;clear z;have P:=Na p (fun l t=>FJ p t l) (fun l a T=>TG p a l T) (t.args.take k) M V;refine Aa fun _ J=>Aa fun _ u=>?_;by_cases b:k < t.args.length
   ·have W:=DY (fun l t=>FJ p t l) t.args k b M;have S:=getM (f:=AC) b;have O:=ih _ (dP b) (t3 _ (dP b));generalize t.args[k]=U at *;generalize (t.args.take k).foldl (fun l t=>FJ p t l) M=Q at *;refine Ac 5 fun A R=>?_;simp only[go_sem,b,tyC];refine u (Al (Ae (J (Aa fun _ K=>Ai (AF 8 fun _ _ _ _ j N=>Av 7 j ?_)))));simp only[go_sem,S];refine Aw j (O Q P _ _) ?_;refine Ap 0 j ?_;simp only[go_sem];refine Ad 1 j ?_;simp only[go_sem];refine N (K (Ac 3 fun _ _=>?_));simp only[go_sem,tyC];try simp (disch:=omega) only[Au]
    refine ⟨_,?_,k + 1,b,rfl,Ao ?_⟩
    ·omega
    simp only[go_sem,W];all_goals first|trivial|omega
   ·have:k=t.args.length:=by omega
    subst this;rw[eo] at *;refine Ac 5 fun A R=>?_;simp only[go_sem,b,tyC];refine u (Aj (Aq (H (Aa fun _ C=>Ac 2 fun _ _=>?_))));simp only[go_sem];refine C (Ah ?_);rw[o];refine Ag ?_;simp only[go_sem];exact Co.refl _
 ·rw[if_neg c] at o;refine Ak e (w _ _) ?_;refine Ad 1 e ?_;simp only[go_sem,c];refine v (r (Al (Aa fun _ D=>Ac 2 fun _ _=>?_)));simp only[go_sem];refine D (Ah ?_);rw[o];refine Ag ?_;simp only[go_sem];exact Co.refl _
noncomputable def Jr (p:Prg) (l:List Str) (f:Param):List Str:=FJ p f.type l
noncomputable def Ew (p:Prg) (n:Str) (l:List Str):List Str:=if AU p n=1 then ((tyDe p n).getD BM).fields.foldl (Jr p) l else l
theorem TH (p:Prg) (l:List Str) (f:Param) (h:DN p l):DN p (Jr p l f):=TG p _ _ h
theorem Js (p:Prg) (n:Str) (l:List Str) (h:DN p l):DN p (Ew p n l):=by
 unfold Ew;split
 ·exact Na p _ (fun l f a=>TH p l f a) _ _ h
 ·exact h
set_option maxHeartbeats 1000000 in
theorem OC (p:Prg) (h:smPr p) (n:Str) (l:List Str) (hl:DN p l) (g d:Nat):ACalls E 145 [AZ p,encS n,slS l] [] g d (slS (Ew p n l)) []:=by
 have a4:=hl.sz h;have u:=Dy p n h.1.1;refine Ax 49 Tryz.call145 Tryz.func145 ?_;simp only[go_sem];refine Aa fun _ G=>Ac 2 fun v _=>?_;simp only[go_sem];refine G (Aa fun _ r=>Am fun _ _ _ _ a t=>Af 2 a ?_);simp only[go_sem];cases i:CF p n with
 | none =>
  have c:Ew p n l=l:=by simp[Ew,AU,ED i,BM]
  refine Ak a (u _ _) ?_;refine Ad 1 a ?_;simp only[go_sem,i,optI];refine t (r (Aa fun _ _=>Aa fun _ M=>Ac 11 fun w y=>?_));simp only[go_sem,show ((-1:Int) < 0)=True from eq_true (by decide)];refine M (Al (Aa fun _ N=>Ac 2 fun D Y=>?_));simp only[go_sem];refine N (Ah ?_);rw[c];refine Ag ?_;simp only[go_sem];exact Co.refl _
 | some j =>
  obtain ⟨z,V⟩:=EE i;have e:=getM (f:=Ce) z;have W:=dP z;have h0:¬ (j:Int) < 0:=by omega
  have c:Ew p n l=if p.decls[j].kind=1 then p.decls[j].fields.foldl (Jr p) l else l:=by
   unfold Ew AU;rw[V]
   rfl
  have B:=h.1.2 _ W;have a2:=B.2.2.1.1;by_cases o:p.decls[j].kind=1
  ·rw[if_pos o] at c;refine Ak a (u _ _) ?_;refine Ad 1 a ?_;simp only[go_sem,i,optI];refine t (r (Aa fun _ O=>Aa fun _ P=>Ac 11 fun w y=>?_));simp only[go_sem,h0,e,o];refine P (Aj (Ae (O (Aa fun _ R=>Aa fun _ S=>Ac 1 fun _ _=>?_))));simp only[go_sem];refine S (Ai ?_);refine Ay (fun m s=>∃ k,k≤p.decls[j].fields.length∧m=p.decls[j].fields.length - k∧Le { env:=[(2,slS ((p.decls[j].fields.take k).foldl (Jr p) l)),(3,.ptr ⟨v,3,0⟩ 0),(7,dN j),(8,dN k)],σ:=[(⟨v,3,0⟩,.box 30 (prC p))] } s) p.decls[j].fields.length ?_ ?_
   ·refine ⟨0,dX _,rfl,Ao ?_⟩;simp only[go_sem];all_goals first|trivial|omega
   ·rintro m s ⟨k,a3,rfl,A⟩;refine Az A ?_;clear A;have X:=Na p (Jr p) (fun l f hh=>TH p l f hh) (p.decls[j].fields.take k) l hl;refine Aa fun _ H=>Aa fun _ x=>?_;by_cases b:k < p.decls[j].fields.length
    ·have C:=DY (Jr p) p.decls[j].fields k b l;have a0:=getM (f:=Bt) b;have U:=PO p h p.decls[j].fields[k].type (B.2.2.1.2 _ (dP b)).2;generalize (p.decls[j].fields.take k).foldl (Jr p) l=Q at *;change _=FJ p (p.decls[j].fields[k]).type Q at C;refine Ac 9 fun F Z=>?_;simp only[go_sem,e,b];refine x (Al (Ae (H (Aa fun _ I=>Ai (AF 13 fun _ _ _ _ q T=>Av 12 q ?_)))));simp only[go_sem,e,a0];refine Aw q (U Q X _ _) ?_;refine Ap 0 q ?_;simp only[go_sem];refine Ad 1 q ?_;simp only[go_sem];refine T (I (Ac 3 fun _ _=>?_));simp only[go_sem];try simp (disch:=omega) only[Au]
     refine ⟨_,?_,k + 1,b,rfl,Ao ?_⟩
     ·omega
     simp only[go_sem,C];all_goals first|trivial|omega
    ·have:k=p.decls[j].fields.length:=by omega
     subst this;rw[eo] at *;refine Ac 9 fun F Z=>?_;simp only[go_sem,e,b];refine x (Aj (Aq (R (Aa fun _ J=>Ac 2 fun _ _=>?_))));simp only[go_sem];refine J (Ah ?_);rw[c];refine Ag ?_;simp only[go_sem];exact Co.refl _
  ·rw[if_neg o] at c;refine Ak a (u _ _) ?_;refine Ad 1 a ?_;simp only[go_sem,i,optI];refine t (r (Aa fun _ _=>Aa fun _ K=>Ac 11 fun w y=>?_));simp only[go_sem,h0,e,o];refine K (Al (Aa fun _ L=>Ac 2 fun D Y=>?_));simp only[go_sem];refine L (Ah ?_);rw[c];refine Ag ?_;simp only[go_sem];exact Co.refl _
noncomputable def QA (p:Prg) (l:List Str) (i:Nat):List Str:=Ew p (l.getD i ByteArray.empty) l
noncomputable def Hc (p:Prg) (n:Nat):Nat→List Str→List Str
 | 0,l=>l
 | f + 1,l=>Hc p n f (QA p l (n - (f + 1)))
noncomputable def Fx (p:Prg) (l:List Str):List Str:=Hc p l.length l.length l
theorem aa7 (p:Prg):∀ (t:Ty) (l:List Str),l.length≤(FJ p t l).length:=by
 refine Ty.ind fun t ih l=>?_;rw[OB];split
 ·rw[Jq];have a:l.length≤(putS l t.name).length:=by
   unfold putS;split
   ·exact ec _
   ·rw[Ow]; omega
  generalize putS l t.name=m at *;generalize t.args=r at *;induction r generalizing m with
  | nil=>exact a
  | cons x r c=>exact c _ (ef a (ih x dY m)) (fun y b=>ih y (ea _ b))
 ·exact ec _
theorem TI (p:Prg) (n:Str) (l:List Str):l.length≤(Ew p n l).length:=by
 unfold Ew;split
 ·generalize ((tyDe p n).getD BM).fields=r;induction r generalizing l with
  | nil=>exact ec _
  | cons x r a=>exact ef (aa7 p x.type l) (a (Jr p l x))
 ·exact ec _
theorem NR (p:Prg) (n:Nat):∀ f l,l.length≤(Hc p n f l).length
 | 0,_=>ec _
 | f + 1,l=>ef (TI p _ l) (NR p n f _)
theorem Ih (p:Prg) (n:Nat):∀ f l,DN p l→DN p (Hc p n f l)
 | 0,_,h=>h
 | f + 1,_,h=>Ih p n f _ (Js p _ _ h)
noncomputable def rchN (p:Prg):Nat→List Str→List Str
 | 0,l=>l
 | f + 1,l=>if (Fx p l).length=l.length then Fx p l else rchN p f (Fx p l)
theorem Yc (p:Prg) (f:Nat) (l:List Str):rchN p (f + 1) l=if (Fx p l).length=l.length then Fx p l else rchN p f (Fx p l):=rfl
noncomputable def Hd (p:Prg) (n:Str):List Str:=rchN p (p.decls.length + 1) (Ew p n [])
theorem Jt (p:Prg):∀ (f:Nat) (l:List Str),DN p l→p.decls.length < f + l.length→∀ e,rchN p (f + e) l=rchN p f l
 | 0,l,h,hf,e=>by have:=h.len; omega
 | f + 1,l,h,hf,e=>by
  have e1:f + 1 + e=(f + e) + 1:=by omega
  rw[e1,rchN,rchN];split
  ·rfl
  ·rename_i a;have b:=NR p l.length l.length l;unfold Fx at a ⊢;exact Jt p f _ (Ih p _ _ _ h) (by omega) e
theorem VD (p:Prg):∀ (f:Nat) (l:List Str),DN p l→DN p (rchN p f l)
 | 0,_,h=>h
 | f + 1,l,h=>by
  unfold rchN;split
  ·exact Ih p _ _ _ h
  ·exact VD p f _ (Ih p _ _ _ h)
theorem WD (p:Prg) (n:Str):DN p (Hd p n):=VD p _ _ (Js p n [] (DN.nil p))
set_option maxHeartbeats 2000000 in
theorem Se (p:Prg) (h:smPr p) (n:Str) (g d:Nat):ACalls E 120 [AZ p,encS n] [] g d (slS (Hd p n)) []:=by
 have x:=OC p h;have h0:=Js p n [] (DN.nil p);refine Ax 30 Tryz.call120 Tryz.func120 ?_;simp only[go_sem];refine Aa fun _ F=>Ac 2 fun l _=>?_;simp only[go_sem];refine F (Aa fun _ I=>Am fun _ _ _ _ t R=>Af 2 t ?_);simp only[go_sem];refine AA t rfl rfl rfl (x n [] (DN.nil p) _ _) (.cons (.refl _) (.cons (.refl _) (.cons (.nil _) .nil))) ?_;refine Ad 1 t ?_;simp only[go_sem];refine R (I (Aa fun _ J=>Aa fun _ K=>Ac 1 fun _ _=>?_));simp only[go_sem];refine K (Ai ?_);have a0:Hd p n=rchN p (p.decls.length + 1) (Ew p n []):=rfl;have a8:=h.1.1;generalize Ew p n []=a at *
 refine Ay (fun m s=>∃ L z,DN p L∧m=p.decls.length + 1 - L.length + (if z=(L.length:Int) then 0 else 1)∧(z≠(L.length:Int)→rchN p (p.decls.length + 1) a=rchN p (p.decls.length + 1 - L.length + 1) L)∧(z=(L.length:Int)→rchN p (p.decls.length + 1) a=L)∧Le { env:=[(2,.ptr ⟨l,2,0⟩ 0),(5,slS L),(6,dI z)],σ:=[(⟨l,2,0⟩,.box 30 (prC p))] } s) (p.decls.length + 1 - a.length + 1) ?_ ?_
 ·refine ⟨a,-1,h0,?_,fun _=>?_,fun y=>?_,Ao ?_⟩
  ·rw[if_neg (by omega)]
  ·have hl:=h0.len;have:=Jt p (p.decls.length + 1 - a.length + 1) a h0 (by omega);by_cases b:a.length=0
   ·rw[b];exact (Jt p (p.decls.length + 1) a h0 (by omega) 1).symm
   ·have j:=this (a.length - 1);rw[show p.decls.length + 1 - a.length + 1 + (a.length - 1)=p.decls.length + 1 by omega] at j;exact j
  ·omega
  simp only[go_sem];all_goals first|trivial|omega
 ·rintro m s ⟨L,z,w,rfl,Z,V,i⟩;refine Az i ?_;clear i;have a3:=w.len;refine Aa fun _ N=>Aa fun _ v=>?_;by_cases b:z=(L.length:Int)
  ·refine Ac 4 fun C W=>?_;simp only[go_sem,b];refine v (Aj (Aq (J (Aa fun _ O=>Ac 2 fun _ _=>?_))));simp only[go_sem];refine O (Ah ?_);rw[a0,V b];refine Ag ?_;simp only[go_sem];exact Co.refl _
  ·have a1:(z=(L.length:Int))=False:=eq_false b;rw[if_neg b];have q:=Z b;rw[Yc p (p.decls.length + 1 - L.length) L] at q;refine Ac 4 fun C W=>?_;simp only[go_sem,a1];refine v (Al (Ae (N (Ai (Aa fun _ P=>Ac 3 fun _ _=>?_)))));simp only[go_sem];refine P (Aa fun _ Q=>Ac 1 fun _ _=>?_);simp only[go_sem];refine Q (Ai ?_);refine Ay (fun m s=>∃ k M,k≤L.length∧m=L.length - k∧DN p M∧L.length≤M.length∧Fx p L=Hc p L.length (L.length - k) M∧Le { env:=[(2,.ptr ⟨l,2,0⟩ 0),(5,slS M),(6,dN L.length),(7,dN k)],σ:=[(⟨l,2,0⟩,.box 30 (prC p))] } s) L.length ?_ ?_
   ·refine ⟨0,L,dX _,rfl,w,ec _,rfl,Ao ?_⟩;simp only[go_sem];all_goals first|trivial|omega
   ·rintro m s ⟨k,M,hk,rfl,c,a2,e,i⟩;refine Az i ?_;clear i;refine Aa fun _ G=>Aa fun _ u=>?_;by_cases r:k < L.length
    ·have A:k < M.length:=by omega
     have Y:=getM (f:=encS) A;have j:L.length - k=(L.length - (k + 1)) + 1:=by omega
     rw[j,Hc,show L.length - (L.length - (k + 1) + 1)=k by omega] at e;have B:QA p M k=Ew p M[k] M:=by
      unfold QA;rw[fl,dO A]
      rfl
     rw[B] at e;have a5:=TI p M[k] M;have U:=Js p M[k] M c;have T:=x M[k] M c;refine Ac 3 fun D X=>?_;simp only[go_sem,r];refine u (Al (Ae (G (Aa fun _ H=>Ai (AF 7 fun _ _ _ _ o S=>Av 6 o ?_)))));simp only[go_sem,Y];refine Aw o (T _ _) ?_;refine Ap 0 o ?_;simp only[go_sem];refine Ad 1 o ?_;simp only[go_sem];refine S (H (Ac 3 fun _ _=>?_));simp only[go_sem];try simp (disch:=omega) only[Au]
     refine ⟨_,?_,k + 1,_,r,rfl,U,by omega,e,Ao ?_⟩
     ·omega
     simp only[go_sem];all_goals first|trivial|omega
    ·have:k=L.length:=by omega
     subst this;rw[gJ,Hc] at e;refine Ac 3 fun D X=>?_;simp only[go_sem,r];refine u ?_;rw[e] at q;refine Aj (Aq ?_);have a4:=c.len;refine ⟨_,?_,M,(L.length:Int),c,rfl,fun y=>?_,fun y=>?_,Ao ?_⟩
     ·split <;> omega
     ·rw[q,if_neg (by omega)];rw[show p.decls.length + 1 - L.length=p.decls.length + 1 - M.length + 1 + (M.length - L.length - 1) by omega];exact Jt p _ M c (by omega) _
     ·rw[q,if_pos (by omega)]
     simp only[go_sem];all_goals first|trivial|omega
def rsC (o:Option Int):List D:=[dI (o.getD 0),dB o.isSome,dB false]
def rsD (o:Option Int):D:=.agg (rsC o)
theorem Mw:∀ l:List Formal,BO 5 (l.map Bz):=fun l=>Du 5 Bz l fun _=>⟨rfl,rfl⟩
set_option maxRecDepth 100000 in
theorem IY (a b:List Formal) (ha:a.length≤1000000) (hb:b.length≤1000000) (g d:Nat):ACalls E 144 [slFm a,slFm b] [] g d (slFm (a++b)) []:=by
 refine Ax 10 Tryz.call144 Tryz.func144 ?_;simp only[go_sem];refine Aa fun _ f=>Ac 1 fun _ _=>?_;simp only[go_sem];refine f (Aa fun _ h=>Am fun e _ _ _ c i=>Af 2 c ?_);simp only[go_sem];refine AG c rfl rfl rfl rfl rfl es41 sz92 by92 ze92 rfl (by decide) ?_;simp only[go_sem,Mw];first | refine ⟨⟨by omega,by omega⟩,?_⟩ | skip
 refine Af 1 c ?_;simp only[go_sem];refine AG c rfl rfl rfl rfl rfl es41 sz92 by92 ze92 rfl (by decide) ?_;simp only[go_sem,Mw];first | refine ⟨⟨by omega,by omega⟩,?_⟩ | skip
 refine Ad 1 c ?_;simp only[go_sem];refine i (h (Ah ?_));refine AY ⟨e,9,0⟩ ?_;simp only[go_sem];refine Ag ?_;simp only[go_sem];exact Co.of_eq (by simp[])
noncomputable def GK (p:Prg) (env l:List Formal):Nat→List Formal→Option Int
 | _,[]=>none
 | k,f :: r=>if AU p f.name≠0 then some f.pos else if f.name∈(env++l.take k).map (·.name) then some f.pos else GK p env l (k + 1) r
noncomputable def Ii (p:Prg) (all:List Formal):List Formal→Option Int
 | []=>none
 | f :: r=>match BR p all f.bound with
  | some i=>some i
  | none=>if Jk p all f.bound=true then Ii p all r else some f.bound.pos
noncomputable def fms15 (p:Prg) (env l:List Formal):Option Int:=match GK p env l 0 l with
 | some i=>some i
 | none=>Ii p (env++l) l
theorem PP {p:Prg} {env l:List Formal} {k:Nat} (h:k < l.length):GK p env l k (l.drop k)=if AU p l[k].name≠0 then some l[k].pos else if l[k].name∈(env++l.take k).map (·.name) then some l[k].pos else GK p env l (k + 1) (l.drop (k + 1)):=by
 rw[ek h,GK]
theorem WE {p:Prg} {all l:List Formal} {k:Nat} (h:k < l.length):Ii p all (l.drop k)=match BR p all l[k].bound with
  | some i=>some i
  | none=>if Jk p all l[k].bound=true then Ii p all (l.drop (k + 1)) else some l[k].bound.pos:=by
 rw[ek h,Ii]
theorem Yd (l:List Formal):GW 5 (l.map Bz):=fun _ hr=>by
 obtain ⟨f,_,rfl⟩:=eh.1 hr
 rfl
theorem aa8 (l:List Formal) (k:Nat) (hk:k≤l.length):(l.map Bz).take k=(l.take k).map Bz:=List.map_take.symm
attribute [go_sem] rsC
set_option maxRecDepth 100000 in
set_option maxHeartbeats 2000000 in
theorem NT (p:Prg) (h:smPr p) (env l:List Formal) (he:env.length≤400000) (he2:∀ f∈env,smFm f) (hl:l.length≤400000) (hl2:∀ f∈l,smFm f) (g d:Nat):ACalls E 118 [AZ p,slFm env,slFm l] [] g d (rsD (fms15 p env l)) []:=by
 have X:=fun n=>Eg p n h.1.1;have O:∀ f∈env++l,smFm f:=fun f hf=>(eu.1 hf).elim (he2 f) (hl2 f);have P:(env++l).length≤1000000:=by rw[dQ]; omega
 have R:=fun t H=>Ei p h (env++l) P O t H;have T:=fun t H=>Lv p h.1.1 (env++l) (by omega) t H;have c:fms15 p env l=match GK p env l 0 l with
  | some i=>some i
  | none=>Ii p (env++l) l:=rfl
 have V:=IY env l (by omega) (by omega);generalize hA:env++l=A at R T c O P V;refine Ax 88 Tryz.call118 Tryz.func118 ?_;simp only[go_sem];refine Aa fun _ a3=>Ac 2 fun o _=>?_;simp only[go_sem];refine a3 (Aa fun _ ab=>Aa fun _ ah=>Ac 1 fun _ _=>?_);simp only[go_sem];refine ah (Ai ?_);refine Ay (fun m s=>∃ k,k≤l.length∧m=l.length - k∧GK p env l 0 l=GK p env l k (l.drop k)∧Le { env:=[(1,slFm env),(2,slFm l),(3,.ptr ⟨o,3,0⟩ 0),(6,.ptr ⟨o,6,0⟩ 0),(7,dN k)],σ:=[(⟨o,3,0⟩,.box 30 (prC p)),(⟨o,6,0⟩,.box 52 (rsC none))] } s) l.length ?_ ?_
 ·refine ⟨0,dX _,rfl,rfl,Ao ?_⟩;simp only[go_sem];all_goals first|trivial|omega
 ·rintro m s ⟨k,W,rfl,e,v⟩;refine Az v ?_;clear v;refine Aa fun _ ai=>Aa fun _ L=>?_;by_cases b:k < l.length
  ·have a:=@PP p env l k b;have q:=getM (f:=Bz) b;have av:=IY env (l.take k) (by omega) (by rw[eD]; omega);have az:=BA (env++l.take k) (by rw[dQ,eD]; omega);have U:=GJ ((env++l.take k).map (·.name)) (by rw[ei,dQ,eD]; omega) l[k].name;generalize (env++l.take k).map (·.name)=Y at *;generalize l[k]=F at *;have aA:=aa8 l k W;have aw:((0:Int)≤(k:Int))=True:=eq_true (by omega);have ax:((k:Int)≤(l.length:Int))=True:=eq_true (by omega);have ay:((0:Int)≤0)=True:=eq_true (by omega);refine Ac 4 fun g2 aq=>?_
   simp only[go_sem,b];refine L (Al (Ae (ai (Aa fun _ aj=>Ai (Aa fun _ ak=>Am fun _ _ _ _ z am=>Af 4 z ?_)))));simp only[go_sem,aA,aw,ax,ay,Yd];refine Ak z (av _ _) ?_;refine Ak z (az _ _) ?_;refine Ad 1 z ?_;simp only[go_sem];refine am (ak (Aa fun _ C=>AE fun _ _ _ _ j D=>Av 6 j ?_));simp only[go_sem,q];by_cases y:AU p F.name=0
   ·rw[if_neg (by simp[y])] at a;refine Aw j (X F.name _ _) ?_;refine Av 8 j ?_;simp only[go_sem,y,q];by_cases r:F.name∈Y
    ·rw[if_pos r] at a;rw[e,a] at c;refine Aw j (U _ _) ?_;refine Ap 1 j ?_;simp only[go_sem,r];refine D (C (Al (Aa fun _ al=>Ac 7 fun g6 ar=>?_)));simp only[go_sem,q];refine al (Ah ?_);rw[c];refine Ag ?_;simp only[go_sem];exact Co.refl _
    ·rw[if_neg r] at a;refine Aw j (U _ _) ?_;refine Ap 1 j ?_;simp only[go_sem,r];refine D (C (Aj (Ae (aj (Ac 3 fun _ _=>?_)))));simp only[go_sem];try simp (disch:=omega) only[Au]
     refine ⟨_,?_,k + 1,b,rfl,e.trans a,Ao ?_⟩
     ·omega
     simp only[go_sem];all_goals first|trivial|omega
   ·rw[if_pos y] at a;rw[e,a] at c;refine Aw j (X F.name _ _) ?_;refine Ap 10 j ?_;simp only[go_sem,y];refine D (C (Al (Aa fun _ a4=>Ac 7 fun g6 ar=>?_)));simp only[go_sem,q];refine a4 (Ah ?_);rw[c];refine Ag ?_;simp only[go_sem];exact Co.refl _
  ·have:k=l.length:=by omega
   subst this;rw[eY,GK] at e;rw[e] at c;refine Ac 4 fun g2 aq=>?_;simp only[go_sem,b];refine L (Aj (Aq (ab (Aa fun _ a5=>Am fun _ _ _ _ G an=>Af 2 G ?_))));simp only[go_sem];refine Ak G (V _ _) ?_;refine Ad 1 G ?_;simp only[go_sem];refine an (a5 (Aa fun _ a6=>Aa fun _ a7=>Ac 1 fun _ _=>?_));simp only[go_sem];refine a7 (Ai ?_);refine Ay (fun m s=>∃ k,k≤l.length∧m=l.length - k∧Ii p A l=Ii p A (l.drop k)∧Le { env:=[(2,slFm l),(3,.ptr ⟨o,3,0⟩ 0),(6,.ptr ⟨o,6,0⟩ 0),(9,slFm A),(10,dN k)],σ:=[(⟨o,3,0⟩,.box 30 (prC p)),(⟨o,6,0⟩,.box 52 (rsC none))] } s) l.length ?_ ?_
   ·refine ⟨0,dX _,rfl,rfl,Ao ?_⟩;simp only[go_sem];all_goals first|trivial|omega
   ·rintro m s ⟨k,W,rfl,e,v⟩;refine Az v ?_;clear v;refine Aa fun _ a8=>Aa fun _ I=>?_;by_cases b:k < l.length
    ·have a:=@WE p A l k b;have q:=getM (f:=Bz) b;have S:=(hl2 _ (dP b)).2;generalize l[k]=F at *;have Q:=R F.bound S;have r:=T F.bound S.ok;refine Ac 4 fun g9 au=>?_;simp only[go_sem,b];refine I (Al (Ae (a8 (Aa fun _ a9=>Ai (Aa fun _ J=>AF 12 fun _ _ _ _ u M=>Av 7 u ?_)))));simp only[go_sem,q];cases B:BR p A F.bound with
     | some i =>
      rw[B] at a;rw[e,a] at c;refine Aw u (Q _ _) ?_;refine Ap 4 u ?_;simp only[go_sem,B,chkD];refine Ad 1 u ?_;simp only[go_sem];refine M (J (Aa fun _ _=>Aa fun _ aa=>Ac 1 fun Z ap=>?_));simp only[go_sem];refine aa (Al (Aa fun _ ac=>Ac 3 fun _ _=>?_));simp only[go_sem];refine ac (Ah ?_);rw[c];refine Ag ?_;simp only[go_sem];exact Co.refl _
     | none =>
      rw[B] at a;refine Aw u (Q _ _) ?_;refine Ap 4 u ?_;simp only[go_sem,B,chkD];refine Ad 1 u ?_;simp only[go_sem];refine M (J (Aa fun _ ad=>Aa fun _ ae=>Ac 1 fun Z ap=>?_));simp only[go_sem];refine ae (Aj (Ae (ad (Aa fun _ K=>AE fun _ _ _ _ w N=>Av 7 w ?_))));simp only[go_sem,q];cases x:Jk p A F.bound with
      | true =>
       simp only[x,if_true] at a;refine Aw w (r _ _) ?_;refine Ap 1 w ?_;simp only[go_sem,x];refine N (K (Aj (Ae (a9 (Ac 3 fun _ _=>?_)))));simp only[go_sem];try simp (disch:=omega) only[Au]
       refine ⟨_,?_,k + 1,b,rfl,e.trans a,Ao ?_⟩
       ·omega
       simp only[go_sem];all_goals first|trivial|omega
      | false =>
       simp only[x,fb,if_false] at a;rw[e,a] at c;refine Aw w (r _ _) ?_;refine Ap 1 w ?_;simp only[go_sem,x];refine N (K (Al (Aa fun _ af=>Ac 8 fun _ _=>?_)));simp only[go_sem,q];refine af (Ah ?_);rw[c];refine Ag ?_;simp only[go_sem];exact Co.refl _
    ·have:k=l.length:=by omega
     subst this;rw[eY,Ii] at e;rw[e] at c;refine Ac 4 fun g9 au=>?_;simp only[go_sem,b];refine I (Aj (Aq (a6 (Aa fun _ ag=>Ac 2 fun _ _=>?_))));simp only[go_sem];refine ag (Ah ?_);rw[c];refine Ag ?_;simp only[go_sem];exact Co.refl _
set_option maxRecDepth 100000 in
theorem JL (l:List Str) (hl:l.length≤1000000) (s:Str) (q c:Nat) (g d:Nat):ACalls E 59 [.own ⟨q,c,0⟩ l.length,encS s] [(⟨q,c,0⟩,.arr 9 1 (l.map encS))] g d (dB (decide (s∈l))) [(⟨q,c,0⟩,.arr 9 1 (l.map encS))]:=by
 refine Ax 18 Tryz.call59 Tryz.func59 ?_;simp only[go_sem];refine Aa fun _ u=>Ac 1 fun _ _=>?_;simp only[go_sem];refine u (Aa fun _ v=>Aa fun _ w=>Ac 1 fun _ _=>?_);simp only[go_sem];refine w (Ai ?_);refine Ay (fun m p=>∃ k,k≤l.length∧m=l.length - k∧s∉l.take k∧Le { env:=[(0,.own ⟨q,c,0⟩ l.length),(1,encS s),(5,dN k)],σ:=[(⟨q,c,0⟩,.arr 9 1 (l.map encS))] } p) l.length ?_ ?_
 ·refine ⟨0,dX _,rfl,by simp,Ao ?_⟩;simp only[go_sem];all_goals first|trivial|omega
 ·rintro m p ⟨k,D,rfl,f,o⟩;refine Az o ?_;clear o;refine Aa fun _ x=>Aa fun _ j=>?_;by_cases a:k < l.length
  ·refine Ac 4 fun r B=>?_;simp only[go_sem,a];refine j (Al (Ae (x (Aa fun _ y=>Ai (Aa fun _ n=>?_)))));by_cases b:l[k]=s
   ·have i:=eq_true b;refine Ac 6 fun t C=>?_;simp only[go_sem,getM a,a,i];refine n (Al (Aa fun _ z=>Ac 1 fun _ _=>?_));simp only[go_sem];refine z (Ah ?_);refine HC rfl (by simp[go_sem]) ?_;simp only[go_sem];exact Co.of_eq (by simp[← b])
   ·have i:=eq_false b;refine Ac 6 fun t C=>?_;simp only[go_sem,getM a,a,i];refine n (Aj (Ae (y (Ac 3 fun _ _=>?_))));simp only[go_sem];try simp (disch:=omega) only[Au]
    refine ⟨_,?_,k + 1,a,rfl,?_,Ao ?_⟩
    ·omega
    ·rw[ep,dO a];simp only[gh,eu,eg];exact fun h=>h.elim f (fun e=>b e.symm)
    simp only[go_sem];all_goals first|trivial|omega
  ·have:k=l.length:=by omega
   subst this;rw[eo] at f;refine Ac 4 fun r B=>?_;simp only[go_sem,a];refine j (Aj (Aq (v (Aa fun _ A=>Ac 1 fun _ _=>?_))));simp only[go_sem];refine A (Ah ?_);refine HC rfl (by simp[go_sem]) ?_;simp only[go_sem];exact Co.of_eq (by simp[f])
noncomputable def Hv (p:Prg) (env:List Formal) (l:List Param):Nat→List Param→Option Int
 | _,[]=>none
 | k,f :: r=>if f.name∈(l.take k).map (·.name) then some f.pos else match BR p env f.type with
  | some i=>some i
  | none=>Hv p env l (k + 1) r
noncomputable def pas15 (p:Prg) (env:List Formal) (l:List Param):Option Int:=Hv p env l 0 l
theorem PQ {p:Prg} {env:List Formal} {l:List Param} {k:Nat} (h:k < l.length):Hv p env l k (l.drop k)=if l[k].name∈(l.take k).map (·.name) then some l[k].pos else match BR p env l[k].type with
  | some i=>some i
  | none=>Hv p env l (k + 1) (l.drop (k + 1)):=by
 rw[ek h,Hv]
set_option maxRecDepth 100000 in
set_option maxHeartbeats 2000000 in
theorem NU (p:Prg) (h:smPr p) (env:List Formal) (he:env.length≤1000000) (he2:∀ f∈env,smFm f) (l:List Param) (hl:l.length≤1000000) (hl2:∀ f∈l,smPa f) (g d:Nat):ACalls E 119 [AZ p,slFm env,slPa l] [] g d (rsD (pas15 p env l)) []:=by
 have a3:=fun t ht=>Ei p h env he he2 t ht;have q:pas15 p env l=Hv p env l 0 l:=rfl;refine Ax 53 Tryz.call119 Tryz.func119 ?_;simp only[go_sem];refine Aa fun _ P=>Ac 2 fun c _=>?_;simp only[go_sem];refine P (Aa fun _ W=>Ac 1 fun _ _=>?_);simp only[go_sem];refine W (Aa fun _ X=>Aa fun _ Y=>?_);refine Bh 7 9 1 rfl fun B a8=>?_;have y:B≠c:=Ar a8 3 0 (by simp[go_sem]);refine Ac 1 fun _ _=>?_;simp only[go_sem];refine Y (Ai ?_)
 refine Ay (fun m s=>∃ k a i,a≠c∧k≤l.length∧m=l.length - k∧Hv p env l 0 l=Hv p env l k (l.drop k)∧Le { env:=[(1,slFm env),(2,slPa l),(3,.ptr ⟨c,3,0⟩ 0),(6,.ptr ⟨c,6,0⟩ 0),(7,.own ⟨a,i,0⟩ ((l.take k).map (·.name)).length),(8,dN k)],σ:=[(⟨c,3,0⟩,.box 30 (prC p)),(⟨c,6,0⟩,.box 52 (rsC none)),(⟨a,i,0⟩,.arr 9 1 (((l.take k).map (·.name)).map encS))] } s) l.length ?_ ?_
 ·refine ⟨0,B,0,y,dX _,rfl,rfl,Ao ?_⟩;simp only[go_sem,y,y.symm];all_goals first|trivial|omega
 ·rintro m s ⟨k,a,i,b,hk,rfl,r,L⟩;refine Az L ?_;clear L;refine Aa fun _ Z=>Aa fun _ D=>?_;by_cases e:k < l.length
  ·have n:=@PQ p env l k e;have v:=getM (f:=Bt) e;have a4:=(hl2 _ (dP e)).2;have aa:(l.take (k + 1)).map (·.name)=(l.take k).map (·.name)++[l[k].name]:=by
    rw[ep,dO e,eC]
    rfl
   have ab:(l.take (k + 1)).length=((l.take k).map (·.name)).length + 1:=by rw[ei,eD,eD]; omega
   have K:=JL ((l.take k).map (·.name)) (by rw[ei,eD]; omega) l[k].name a i;have ac:((l.take k).map (·.name)).length≤1000000:=by rw[ei,eD]; omega
   have J:=a3 _ a4;generalize (l.take k).map (·.name)=M at *;generalize l[k]=F at *;refine Ac 4 fun N a5=>?_;simp only[go_sem,e];refine D (Al (Ae (Z (Aa fun _ a0=>Ai (Aa fun _ a1=>Aa fun _ G=>Am fun _ _ _ _ u H=>Af 6 u ?_)))));simp only[go_sem,v];by_cases w:F.name∈M
   ·rw[if_pos w] at n;rw[r,n] at q;refine Dx u rfl rfl rfl (K _ _) (CoL.refl _) (by simp[go_sem,b.symm]) ?_;refine Ad 0 u ?_;simp only[go_sem,w,b.symm];refine H (G (Al (Aa fun _ Q=>Ac 7 fun _ _=>?_)));simp only[go_sem,v,b];refine Q (Ah ?_);rw[q];refine Ag ?_;simp only[go_sem,b];exact Co.refl _
   ·rw[if_neg w] at n;refine Dx u rfl rfl rfl (K _ _) (CoL.refl _) (by simp[go_sem,b.symm]) ?_;refine Ad 0 u ?_;simp only[go_sem,w,b.symm];refine H (G (Aj (Ae (a1 (Aa fun _ R=>Am fun A a6 _ _ z a2=>Af 7 z ?_)))));simp only[go_sem,v];refine AG z rfl rfl rfl rfl rfl es44 sz9 by9 ze9 rfl (by decide) ?_;simp only[go_sem,b.symm];first | refine ⟨⟨by omega,by omega⟩,?_⟩ | skip
    have o:A≠c:=Ar a6 3 0 (by simp[go_sem,b]);refine Ad 1 z ?_;simp only[go_sem];refine a2 (R (Aa fun _ C=>AF 12 fun _ _ _ _ j I=>Av 7 j ?_));simp only[go_sem,v,o];cases x:BR p env F.type with
    | some i =>
     rw[x] at n;rw[r,n] at q;refine Aw j (J _ _) ?_;refine Ap 4 j ?_;simp only[go_sem,x,chkD];refine Ad 1 j ?_;simp only[go_sem];refine I (C (Aa fun _ S=>Ac 1 fun O a7=>?_));simp only[go_sem];refine S (Al (Aa fun _ T=>Ac 3 fun _ _=>?_));simp only[go_sem,o];refine T (Ah ?_);rw[q];refine Ag ?_;simp only[go_sem,o];exact Co.refl _
    | none =>
     rw[x] at n;refine Aw j (J _ _) ?_;refine Ap 4 j ?_;simp only[go_sem,x,chkD];refine Ad 1 j ?_;simp only[go_sem];refine I (C (Aa fun _ U=>Ac 1 fun O a7=>?_));simp only[go_sem];refine U (Aj (Ae (a0 (Ac 3 fun _ _=>?_))));simp only[go_sem];try simp (disch:=omega) only[Au]
     refine ⟨_,?_,k + 1,A,37,o,e,rfl,r.trans n,Ao ?_⟩
     ·omega
     simp only[go_sem,aa,ab,o,o.symm];all_goals first|trivial|omega
  ·have:k=l.length:=by omega
   subst this;rw[eY,Hv] at r;rw[r] at q;refine Ac 4 fun N a5=>?_;simp only[go_sem,e];refine D (Aj (Aq (X (Aa fun _ V=>Ac 2 fun _ _=>?_))));simp only[go_sem,b];refine V (Ah ?_);rw[q];refine Ag ?_;simp only[go_sem,b];exact Co.refl _
noncomputable def sig15 (p:Prg) (env:List Formal) (s:Sig):Option Int:=match fms15 p env s.formals with
 | some i=>some i
 | none=>match pas15 p (env++s.formals) s.params with
  | some i=>some i
  | none=>BR p (env++s.formals) s.result
set_option maxRecDepth 100000 in
set_option maxHeartbeats 2000000 in
theorem NV (p:Prg) (h:smPr p) (env:List Formal) (he:env.length≤400000) (he2:∀ f∈env,smFm f) (s:Sig) (hs:smSi s) (hs2:s.formals.length≤400000) (g d:Nat):ACalls E 121 [AZ p,slFm env,AH s] [] g d (rsD (sig15 p env s)) []:=by
 have a:sig15 p env s=match fms15 p env s.formals with
  | some i=>some i
  | none=>match pas15 p (env++s.formals) s.params with
   | some i=>some i
   | none=>BR p (env++s.formals) s.result:=rfl
 have v:∀ f∈env++s.formals,smFm f:=fun f b=>(eu.1 b).elim (he2 f) (hs.2.1.2 f);have w:(env++s.formals).length≤1000000:=by rw[dQ]; omega
 have b:=NT p h env s.formals he he2 hs2 hs.2.1.2;have W:=IY env s.formals (by omega) (by omega);have X:=NU p h (env++s.formals) w v s.params hs.2.2.1.1 hs.2.2.1.2;have S:=Ei p h (env++s.formals) w v s.result hs.2.2.2;generalize env++s.formals=A at *;refine Ax 43 Tryz.call121 Tryz.func121 ?_;simp only[go_sem];refine Aa fun _ C=>Ac 3 fun _ _=>?_;simp only[go_sem];refine C (Aa fun _ J=>Am fun _ _ _ _ c O=>Af 4 c ?_);simp only[go_sem];refine Ak c (b _ _) ?_;refine Ad 2 c ?_;simp only[go_sem,rsD];refine O (J (Aa fun _ K=>Am fun _ _ _ _ e P=>Af 3 e ?_));simp only[go_sem];refine Ak e (W _ _) ?_
 refine Ad 1 e ?_;simp only[go_sem];refine P (K (Aa fun _ t=>Aa fun _ u=>?_));cases m:fms15 p env s.formals with
 | some i =>
  rw[m] at a;refine Ac 3 fun y T=>?_;simp only[go_sem];refine u (Aj (Ae (t (Aa fun _ _=>Aa fun _ L=>Ac 2 fun l x=>?_))));simp only[go_sem];refine L (Al (Aa fun _ M=>Ac 2 fun z U=>?_));simp only[go_sem];refine M (Ah ?_);rw[a];refine Ag ?_;simp only[go_sem];exact Co.refl _
 | none =>
  rw[m] at a;refine Ac 3 fun y T=>?_;simp only[go_sem];refine u (Al (Am fun _ _ _ _ j Q=>Af 4 j ?_));simp only[go_sem];refine Ak j (X _ _) ?_;refine Ad 1 j ?_;simp only[go_sem,rsD];refine Q (t (Aa fun _ N=>Aa fun _ q=>?_));cases n:pas15 p A s.params with
  | some i =>
   rw[n] at a;refine Ac 2 fun l x=>?_;simp only[go_sem];refine q (Al (Aa fun _ D=>Ac 2 fun z U=>?_));simp only[go_sem];refine D (Ah ?_);rw[a];refine Ag ?_;simp only[go_sem];exact Co.refl _
  | none =>
   rw[n] at a;refine Ac 2 fun l x=>?_;simp only[go_sem];refine q (Aj (Ae (N (Aa fun _ F=>Am fun _ _ _ _ k R=>Af 4 k ?_))));simp only[go_sem];refine Ak k (S _ _) ?_;refine Ad 5 k ?_;simp only[go_sem,chkD];refine R (F (Aa fun _ G=>Aa fun _ r=>?_));cases o:BR p A s.result with
   | some i =>
    rw[o] at a;refine Ac 1 fun B V=>?_;simp only[go_sem];refine r (Al (Aa fun _ H=>Ac 3 fun _ _=>?_));simp only[go_sem];refine H (Ah ?_);rw[a];refine Ag ?_;simp only[go_sem];exact Co.refl _
   | none =>
    rw[o] at a;refine Ac 1 fun B V=>?_;simp only[go_sem];refine r (Aj (Ae (G (Aa fun _ I=>Ac 2 fun _ _=>?_))));simp only[go_sem];refine I (Ah ?_);rw[a];refine Ag ?_;simp only[go_sem];exact Co.refl _
def Cp (v:Str):Ty:=.mk v [] 0
def Ea (ns:List Str) (us:List Ty) (f:Formal) (v:Str):Formal:=⟨v,AD ns us f.bound,f.pos⟩
noncomputable def DI (p:Prg) (d:Dec):List Formal:=List.zipWith (Ea ((Bf p d.name).map (·.name)) (d.vars.map Cp)) (Bf p d.name) d.vars
theorem VE {α β γ:Type} (f:α→β→γ) (l:List α) (m:List β) (k:Nat) (h1:k < l.length) (h2:k < m.length):(List.zipWith f l m).take (k + 1)=(List.zipWith f l m).take k++[f l[k] m[k]]:=by
 have h:k < (List.zipWith f l m).length:=by rw[fF]; omega
 rw[ep,dO h,List.getElem_zipWith]
 rfl
def Cu (v:Str):D:=.agg [.val (.string v),.val (.slice none 0 0),dI 0]
theorem TJ (l:List Str):Co (.sl false (l.map Cu)) (slTy (l.map Cp)):=by
 unfold slTy;rw[fB];refine Co.map _ (fun h=>h) fun _ _=>?_;simp only[Function.comp,JE,Cp,Ty.name_mk,Ty.args_mk,Ty.pos_mk,Cu,f9];exact .cons (.refl _) (.cons (.nil _) (.cons (.refl _) .nil))
theorem Sv (v:Str) (h:v.size≤1000000):smTy (Cp v):=(Bi _).2 ⟨h,by simp[Cp],by simp[Cp]⟩
set_option maxRecDepth 100000 in
set_option maxHeartbeats 2000000 in
theorem UU (p:Prg) (h:smPr p) (e:Dec) (hd:smDe e) (g d:Nat):ACalls E 123 [AZ p,Ce e] [] g d (slFm (DI p e)) []:=by
 have af:=Fu p e.name h.1.1;have T:=(E2 h e.name).2.1;change (Bf p e.name).length≤2000∧∀ f∈Bf p e.name,smFm f at T;have av:=hd.2.2.2.2.2.1.1;have ap:=hd.2.2.2.2.2.1.2;have S:DI p e=List.zipWith (Ea ((Bf p e.name).map (·.name)) (e.vars.map Cp)) (Bf p e.name) e.vars:=rfl;generalize Bf p e.name=L at *;have am:=BA L (by omega);have aq:∀ t∈e.vars.map Cp,smTy t:=fun t G=>by
  obtain ⟨v,hv,rfl⟩:=eh.1 G;exact Sv v (ap v hv)
 have an:=fun t G=>BB (L.map (·.name)) (e.vars.map Cp) (by rw[ei]; omega) aq t G;refine Ax 66 Tryz.call123 Tryz.func123 ?_;simp only[go_sem];refine Aa fun _ X=>Ac 3 fun c _=>?_;simp only[go_sem];refine X (Aa fun _ a4=>Am fun _ _ _ _ D ab=>Af 3 D ?_);simp only[go_sem];refine Ak D (af _ _) ?_;refine Ad 1 D ?_;simp only[go_sem];refine ab (a4 (Aa fun _ a5=>Ac 1 fun _ _=>?_));simp only[go_sem];refine a5 (Aa fun _ a6=>Aa fun _ a7=>?_);refine Bh 6 25 3 rfl fun N ak=>?_;have B:N≠c:=Ar ak 2 0 (by simp[go_sem]);refine Ac 1 fun _ _=>?_;simp only[go_sem];refine a7 (Ai ?_)
 refine Ay (fun m s=>∃ k a i,a≠c∧k≤e.vars.length∧m=e.vars.length - k∧Le { env:=[(2,.ptr ⟨c,2,0⟩ 0),(3,.ptr ⟨c,3,0⟩ 0),(5,slFm L),(6,.own ⟨a,i,0⟩ k),(7,dN k)],σ:=[(⟨c,2,0⟩,.box 30 (prC p)),(⟨c,3,0⟩,.box 48 (deC e)),(⟨a,i,0⟩,.arr 25 3 ((e.vars.take k).map Cu))] } s) e.vars.length ?_ ?_
 ·refine ⟨0,N,0,B,dX _,rfl,Ao ?_⟩;simp only[go_sem,B,B.symm];all_goals first|trivial|omega
 ·rintro m s ⟨k,a,i,o,hk,rfl,r⟩;refine Az r ?_;clear r;refine Aa fun _ a8=>Aa fun _ P=>?_;by_cases l:k < e.vars.length
  ·have q:=getM (f:=encS) l;have H:(e.vars.take (k + 1)).map Cu=(e.vars.take k).map Cu++[Cu e.vars[k]]:=by
    rw[ep,dO l,eC]
    rfl
   have z:((e.vars.take k).map Cu).length=k:=by rw[ei,eD]; omega
   generalize (e.vars.take k).map Cu=V at *;refine Ac 5 fun W ai=>?_;simp only[go_sem,l,o];refine P (Al (Ae (a8 (Aa fun _ a9=>Ai (Am fun J aj _ _ F ad=>Af 8 F ?_)))));simp only[go_sem,q,o];refine AG F rfl rfl rfl rfl rfl es23 sz25 by25 ze25 rfl (by decide) ?_;simp only[go_sem,z,o.symm];first | refine ⟨⟨by omega,by omega⟩,?_⟩ | skip
   have C:J≠c:=Ar aj 3 0 (by simp[go_sem]);refine Ad 1 F ?_;simp only[go_sem];refine ad (a9 (Ac 3 fun _ _=>?_));simp only[go_sem];try simp (disch:=omega) only[Au]
   refine ⟨_,?_,k + 1,J,29,C,l,rfl,Ao ?_⟩
   ·omega
   simp only[go_sem,H,Cu,C,C.symm];all_goals first|trivial|omega
  ·have:k=e.vars.length:=by omega
   subst this;rw[eo];refine Ac 5 fun W ai=>?_;simp only[go_sem,l,o];refine P (Aj (Aq (a6 (Aa fun _ aa=>Ac 1 fun _ _=>?_))));simp only[go_sem];refine aa (Aa fun _ O=>Aa fun _ Y=>?_);refine Ch ⟨a,i,0⟩ ?_;simp only[go_sem,o.symm];refine Pj 6 (slTy (e.vars.map Cp)) ?_;simp only[go_sem];refine ⟨TJ _,?_⟩;refine Bh 8 92 5 rfl fun M q=>?_;have y:M≠c:=Ar q 2 0 (by simp[go_sem]);refine Ac 1 fun _ _=>?_;simp only[go_sem];refine Y (Ai ?_)
   refine Ay (fun m s=>∃ k a i,a≠c∧k≤L.length∧k≤e.vars.length∧m=L.length - k∧Le { env:=[(2,.ptr ⟨c,2,0⟩ 0),(3,.ptr ⟨c,3,0⟩ 0),(5,slFm L),(6,slTy (e.vars.map Cp)),(8,.own ⟨a,i,0⟩ k),(9,dN k)],σ:=[(⟨c,2,0⟩,.box 30 (prC p)),(⟨c,3,0⟩,.box 48 (deC e)),(⟨a,i,0⟩,.arr 92 5 (((List.zipWith (Ea (L.map (·.name)) (e.vars.map Cp)) L e.vars).take k).map Bz))] } s) L.length ?_ ?_
   ·refine ⟨0,M,0,y,dX _,dX _,rfl,Ao ?_⟩;simp only[go_sem,y,y.symm];all_goals first|trivial|omega
   ·rintro m s ⟨k,b,j,w,hk,au,rfl,r⟩;refine Az r ?_;clear r;refine Aa fun _ a0=>Aa fun _ x=>?_;by_cases l:k < L.length
    ·by_cases u:k < e.vars.length
     ·have q:=getM (f:=encS) u;have R:=getM (f:=Bz) l;have ae:=T.2 _ (dP l);have H:=VE (Ea (L.map (·.name)) (e.vars.map Cp)) L e.vars k l u;have z:((List.zipWith (Ea (L.map (·.name)) (e.vars.map Cp)) L e.vars).take k).length=k:=by rw[eD,fF]; omega
      generalize (List.zipWith (Ea (L.map (·.name)) (e.vars.map Cp)) L e.vars).take k=Z at *;refine Ac 10 fun K Q=>?_;simp only[go_sem,l,u];refine x (Al (Ae (a0 (Aa fun _ a1=>Ai (AF 22 fun I ag _ _ n ac=>Av 12 n ?_)))));simp only[go_sem,q,R,w];refine Aw n (am _ _) ?_;refine Av 1 n ?_;simp only[go_sem];refine Aw n (an L[k].bound ae.2 _ _) ?_;refine Ap 7 n ?_;simp only[go_sem,R];refine Af 0 n ?_;simp only[go_sem];refine AG n rfl rfl rfl rfl rfl es41 sz92 by92 ze92 rfl (by decide) ?_;simp only[go_sem,z,w.symm];first | refine ⟨⟨by omega,by omega⟩,?_⟩ | skip
      have A:I≠c:=Ar ag 2 0 (by simp[go_sem]);refine Ad 1 n ?_;simp only[go_sem];refine ac (a1 (Ac 3 fun _ _=>?_));simp only[go_sem];try simp (disch:=omega) only[Au]
      refine ⟨_,?_,k + 1,I,64,A,l,u,rfl,Ao ?_⟩
      ·omega
      simp only[go_sem,H,Ea,A,A.symm];all_goals first|trivial|omega
     ·have:k=e.vars.length:=by omega
      subst this;have ar:(List.zipWith (Ea (L.map (·.name)) (e.vars.map Cp)) L e.vars).length=e.vars.length:=by rw[fF]; omega
      rw[fO (by rw[fF]; omega)];refine Ac 10 fun K Q=>?_;simp only[go_sem,l,u];refine x (Aj (Aq (O (Aa fun _ a2=>Ac 2 fun U ah=>?_))));simp only[go_sem];refine a2 (Ah ?_);refine AY ⟨b,j,0⟩ ?_;simp only[go_sem,w.symm];refine Ag ?_;simp only[go_sem];exact Co.of_eq (by rw[S])
    ·have:k=L.length:=by omega
     subst this;have ar:(List.zipWith (Ea (L.map (·.name)) (e.vars.map Cp)) L e.vars).length=L.length:=by rw[fF]; omega
     rw[fO (by rw[fF]; omega)];refine Ac 10 fun K Q=>?_;simp only[go_sem,l];refine x (Aj (Aq (O (Aa fun _ a3=>Ac 2 fun U ah=>?_))));simp only[go_sem];refine a3 (Ah ?_);refine AY ⟨b,j,0⟩ ?_;simp only[go_sem,w.symm];refine Ag ?_;simp only[go_sem];exact Co.of_eq (by rw[S])
set_option maxRecDepth 100000 in
set_option maxHeartbeats 2000000 in
theorem TK (p:Prg) (h:smPr p) (e:Dec) (hd:smDe e) (g d:Nat):ACalls E 123 [AZ p,Ce e] [] g d (.own ⟨g,d,1⟩ (DI p e).length) [(⟨g,d,1⟩,.arr 92 5 ((DI p e).map Bz))]:=by
 have ag:=Fu p e.name h.1.1;have U:=(E2 h e.name).2.1;change (Bf p e.name).length≤2000∧∀ f∈Bf p e.name,smFm f at U;have av:=hd.2.2.2.2.2.1.1;have aq:=hd.2.2.2.2.2.1.2;have T:DI p e=List.zipWith (Ea ((Bf p e.name).map (·.name)) (e.vars.map Cp)) (Bf p e.name) e.vars:=rfl;generalize Bf p e.name=L at *;have an:=BA L (by omega);have ar:∀ t∈e.vars.map Cp,smTy t:=fun t G=>by
  obtain ⟨v,hv,rfl⟩:=eh.1 G;exact Sv v (aq v hv)
 have ao:=fun t G=>BB (L.map (·.name)) (e.vars.map Cp) (by rw[ei]; omega) ar t G;refine Ax 66 Tryz.call123 Tryz.func123 ?_;simp only[go_sem];refine Aa fun _ Y=>Ac 3 fun c _=>?_;simp only[go_sem];refine Y (Aa fun _ a5=>Am fun _ _ _ _ D ac=>Af 3 D ?_);simp only[go_sem];refine Ak D (ag _ _) ?_;refine Ad 1 D ?_;simp only[go_sem];refine ac (a5 (Aa fun _ a6=>Ac 1 fun _ _=>?_));simp only[go_sem];refine a6 (Aa fun _ a7=>Aa fun _ a8=>?_);refine Bh 6 25 3 rfl fun O al=>?_;have B:O≠c:=Ar al 2 0 (by simp[go_sem]);refine Ac 1 fun _ _=>?_;simp only[go_sem];refine a8 (Ai ?_)
 refine Ay (fun m s=>∃ k a i,a≠c∧k≤e.vars.length∧m=e.vars.length - k∧Le { env:=[(2,.ptr ⟨c,2,0⟩ 0),(3,.ptr ⟨c,3,0⟩ 0),(5,slFm L),(6,.own ⟨a,i,0⟩ k),(7,dN k)],σ:=[(⟨c,2,0⟩,.box 30 (prC p)),(⟨c,3,0⟩,.box 48 (deC e)),(⟨a,i,0⟩,.arr 25 3 ((e.vars.take k).map Cu))] } s) e.vars.length ?_ ?_
 ·refine ⟨0,O,0,B,dX _,rfl,Ao ?_⟩;simp only[go_sem,B,B.symm];all_goals first|trivial|omega
 ·rintro m s ⟨k,a,i,o,hk,rfl,r⟩;refine Az r ?_;clear r;refine Aa fun _ a9=>Aa fun _ Q=>?_;by_cases l:k < e.vars.length
  ·have q:=getM (f:=encS) l;have H:(e.vars.take (k + 1)).map Cu=(e.vars.take k).map Cu++[Cu e.vars[k]]:=by
    rw[ep,dO l,eC]
    rfl
   have z:((e.vars.take k).map Cu).length=k:=by rw[ei,eD]; omega
   generalize (e.vars.take k).map Cu=V at *;refine Ac 5 fun X aj=>?_;simp only[go_sem,l,o];refine Q (Al (Ae (a9 (Aa fun _ aa=>Ai (Am fun K ak _ _ F ae=>Af 8 F ?_)))));simp only[go_sem,q,o];refine AG F rfl rfl rfl rfl rfl es23 sz25 by25 ze25 rfl (by decide) ?_;simp only[go_sem,z,o.symm];first | refine ⟨⟨by omega,by omega⟩,?_⟩ | skip
   have C:K≠c:=Ar ak 3 0 (by simp[go_sem]);refine Ad 1 F ?_;simp only[go_sem];refine ae (aa (Ac 3 fun _ _=>?_));simp only[go_sem];try simp (disch:=omega) only[Au]
   refine ⟨_,?_,k + 1,K,29,C,l,rfl,Ao ?_⟩
   ·omega
   simp only[go_sem,H,Cu,C,C.symm];all_goals first|trivial|omega
  ·have:k=e.vars.length:=by omega
   subst this;rw[eo];refine Ac 5 fun X aj=>?_;simp only[go_sem,l,o];refine Q (Aj (Aq (a7 (Aa fun _ ab=>Ac 1 fun _ _=>?_))));simp only[go_sem];refine ab (Aa fun _ P=>Aa fun _ a0=>?_);refine Ch ⟨a,i,0⟩ ?_;simp only[go_sem,o.symm];refine Pj 6 (slTy (e.vars.map Cp)) ?_;simp only[go_sem];refine ⟨TJ _,?_⟩;refine Bh 8 92 5 rfl fun N q=>?_;have y:N≠c:=Ar q 2 0 (by simp[go_sem]);refine Ac 1 fun _ _=>?_;simp only[go_sem];refine a0 (Ai ?_)
   refine Ay (fun m s=>∃ k a i,a≠c∧k≤L.length∧k≤e.vars.length∧m=L.length - k∧Le { env:=[(2,.ptr ⟨c,2,0⟩ 0),(3,.ptr ⟨c,3,0⟩ 0),(5,slFm L),(6,slTy (e.vars.map Cp)),(8,.own ⟨a,i,0⟩ k),(9,dN k)],σ:=[(⟨c,2,0⟩,.box 30 (prC p)),(⟨c,3,0⟩,.box 48 (deC e)),(⟨a,i,0⟩,.arr 92 5 (((List.zipWith (Ea (L.map (·.name)) (e.vars.map Cp)) L e.vars).take k).map Bz))] } s) L.length ?_ ?_
   ·refine ⟨0,N,0,y,dX _,dX _,rfl,Ao ?_⟩;simp only[go_sem,y,y.symm];all_goals first|trivial|omega
   ·rintro m s ⟨k,b,j,w,hk,au,rfl,r⟩;refine Az r ?_;clear r;refine Aa fun _ a1=>Aa fun _ x=>?_;by_cases l:k < L.length
    ·by_cases u:k < e.vars.length
     ·have q:=getM (f:=encS) u;have S:=getM (f:=Bz) l;have af:=U.2 _ (dP l);have H:=VE (Ea (L.map (·.name)) (e.vars.map Cp)) L e.vars k l u;have z:((List.zipWith (Ea (L.map (·.name)) (e.vars.map Cp)) L e.vars).take k).length=k:=by rw[eD,fF]; omega
      generalize (List.zipWith (Ea (L.map (·.name)) (e.vars.map Cp)) L e.vars).take k=Z at *;refine Ac 10 fun M R=>?_;simp only[go_sem,l,u];refine x (Al (Ae (a1 (Aa fun _ a2=>Ai (AF 22 fun J ah _ _ n ad=>Av 12 n ?_)))));simp only[go_sem,q,S,w];refine Aw n (an _ _) ?_;refine Av 1 n ?_;simp only[go_sem];refine Aw n (ao L[k].bound af.2 _ _) ?_;refine Ap 7 n ?_;simp only[go_sem,S];refine Af 0 n ?_;simp only[go_sem];refine AG n rfl rfl rfl rfl rfl es41 sz92 by92 ze92 rfl (by decide) ?_;simp only[go_sem,z,w.symm];first | refine ⟨⟨by omega,by omega⟩,?_⟩ | skip
      have A:J≠c:=Ar ah 2 0 (by simp[go_sem]);refine Ad 1 n ?_;simp only[go_sem];refine ad (a2 (Ac 3 fun _ _=>?_));simp only[go_sem];try simp (disch:=omega) only[Au]
      refine ⟨_,?_,k + 1,J,64,A,l,u,rfl,Ao ?_⟩
      ·omega
      simp only[go_sem,H,Ea,A,A.symm];all_goals first|trivial|omega
     ·have:k=e.vars.length:=by omega
      subst this;have I:(List.zipWith (Ea (L.map (·.name)) (e.vars.map Cp)) L e.vars).length=e.vars.length:=by rw[fF]; omega
      rw[fO (by rw[fF]; omega)];refine Ac 10 fun M R=>?_;simp only[go_sem,l,u];refine x (Aj (Aq (P (Aa fun _ a3=>Ac 2 fun W ai=>?_))));simp only[go_sem];refine a3 (Ah ?_);rw[T];refine DK [⟨b,j,0⟩] rfl ?_;simp only[go_sem,I,w.symm];exact Co.refl _
    ·have:k=L.length:=by omega
     subst this;have I:(List.zipWith (Ea (L.map (·.name)) (e.vars.map Cp)) L e.vars).length=L.length:=by rw[fF]; omega
     rw[fO (by rw[fF]; omega)];refine Ac 10 fun M R=>?_;simp only[go_sem,l];refine x (Aj (Aq (P (Aa fun _ a4=>Ac 2 fun W ai=>?_))));simp only[go_sem];refine a4 (Ah ?_);rw[T];refine DK [⟨b,j,0⟩] rfl ?_;simp only[go_sem,I,w.symm];exact Co.refl _
end Go.Proofs.T
