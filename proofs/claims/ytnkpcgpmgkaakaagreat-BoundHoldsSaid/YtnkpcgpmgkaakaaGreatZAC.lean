/- A part of the proof: ZAC. -/
import Derived.Test.YtnkpcgpmgkaakaaGreatZAB
import Derived.Laws.Strings2
namespace Go.Ab
open Go Go.RowKit
section
variable {P:Program} {G:Gh} {w:World}
def Vs (G:Gh) (w:World) (cs:Array Value) (ds:List D):Prop:=cs.size=ds.length∧∀ (i:Nat) c d,cs[i]?=some c→ds[i]?=some d→V G w c d
theorem V.cells {v:Value} {d:D} (h:V G w v d) (h1:d.cells.all D.one=true):Vs G w v.cells d.cells∧∀ c∈v.cells.toList,c.oneCell'=true:=by
 have single:∀ {v:Value} {d:D},V G w v d→d.one=true→v.oneCell'=true→Vs G w #[v] [d]∧∀ c∈(#[v]:Array Value).toList,c.oneCell'=true:=by
  intro v d f _ e;refine ⟨⟨rfl,fun i c _ a b=>?_⟩,fun c a=>?_⟩
  ·cases i with
   | zero=>simp at a b; subst a; subst b; exact f
   | succ i=>simp at b
  ·simp at a; subst a; exact e
 have m:∀ {v:Value} {d:D},V G w v d→d.one=true→Vs G w v.cells [d]∧∀ c∈v.cells.toList,c.oneCell'=true:=by
  intro v d f e;have h1:=f.one e;have:v.cells=#[v]:=by cases v <;> simp[Value.oneCell'] at h1 <;> rfl
  rw[this];exact single f e h1
 cases d with
 | agg j =>
  cases h with
  | agg l k =>
   refine ⟨⟨l,k⟩,fun c a=>?_⟩;obtain ⟨i,g⟩:=fg.1 a;simp only[Value.cells,fk] at g;have n:=(fa.1 g).1;have b:j[i]?=some j[i]:=dO (by omega);exact (k i c _ g b).one (by
    simp only[D.cells,eL] at h1;exact h1 _ (dP _))
 | any=>simp[D.cells,D.one] at h1
 | tup=>simp[D.cells,D.one] at h1
 | _=>exact m h (by simpa [D.cells] using h1)
theorem LQ (off:Nat):∀ (l:List Value) (j:Nat) (cs:Array Value),
  ((l.zipIdx j).foldl (fun (cs:Array Value) (p:Value × Nat)=>cs.setIfInBounds (off + p.2) p.1) cs).size=cs.size ∧
  ∀ i,((l.zipIdx j).foldl (fun (cs:Array Value) (p:Value × Nat)=>cs.setIfInBounds (off + p.2) p.1) cs)[i]?=if off + j≤i∧i < off + j + l.length∧i < cs.size then l[i - (off + j)]? else cs[i]?
 | [],j,cs=>⟨rfl,fun i=>by simp; intro h1 h2; omega⟩
 | v :: r,j,cs=>by
  obtain ⟨h1,h2⟩:=LQ off r (j + 1) (cs.setIfInBounds (off + j) v);simp only[List.zipIdx_cons,fz];refine ⟨by rw[h1]; simp,fun i=>?_⟩;rw[h2 i,eW];simp only[gZ,eB];by_cases hi:off + j=i
  ·subst hi;by_cases hs:off + j < cs.size
   ·rw[if_neg (by omega),if_pos rfl,if_pos hs,if_pos ⟨by omega,by omega,hs⟩];simp
   ·rw[if_neg (by omega),if_pos rfl,if_neg hs,if_neg (by omega)];simp[fX hs]
  ·rw[if_neg hi];by_cases hc:off + (j + 1)≤i∧i < off + (j + 1) + r.length∧i < cs.size
   ·rw[if_pos hc,if_pos ⟨by omega,by omega,hc.2.2⟩];have:i - (off + j)=(i - (off + (j + 1))) + 1:=by omega
    rw[this,fK]
   ·rw[if_neg hc,if_neg (by omega)]
theorem Od (cs:List D) (o:Nat) (new:List D) (ho:o + new.length≤cs.length) (i:Nat) :
  (over cs o new)[i]?=if o≤i∧i < o + new.length then new[i - o]? else cs[i]?:=by
 unfold over;have c:(cs.take o++new).length=o + new.length:=by simp; omega
 by_cases a:i < o
 ·rw[eE,eF (by simp; omega),eb,if_pos a,if_neg (by omega)]
 ·by_cases b:i < o + new.length
  ·rw[eE,eJ (by simp; omega),eF (by simp; omega),if_pos ⟨by omega,b⟩]
   congr 1
   simp;omega
  ·rw[eJ (by omega),if_neg (by omega),eR,c]
   congr 1
   omega
theorem FR (cs:List D) (o:Nat) (new:List D) (ho:o + new.length≤cs.length):(over cs o new).length=cs.length:=by
 unfold over;simp;omega
theorem SI (place:Nat→Option (Nat × Nat)):∀ (ps:List (Nat × Value)) (qs:List (Nat × D)) (cs:Array Value) (ds ds' : List D),
  ps.length=qs.length→(∀ (j:Nat) p q,ps[j]?=some p→qs[j]?=some q→p.1=q.1∧V G w p.2 q.2)→Vs G w cs ds→Ky place ds qs=some ds' →
  ∃ cs',Instr.fill place cs ps=some cs'∧Vs G w cs' ds'
 | [],[],cs,ds,ds',_,_,hv,h=>by
  simp only[Ky,Option.some.injEq] at h;subst h;exact ⟨cs,rfl,hv⟩
 | (i,v) :: ps,(i',d) :: qs,cs,ds,ds',hl,hp,hv,h=>by
  obtain ⟨rfl,hvd⟩:i=i'∧V G w v d:=hp 0 _ _ rfl rfl;simp only[Ky] at h;split at h
  ·cases h
  ·rename_i o k hpl;split at h
   ·rename_i hc;obtain ⟨rfl,hle,h1⟩:=hc;obtain ⟨⟨hs,hV⟩,_⟩:=hvd.cells h1;have hfold:v.cells.zipIdx.foldl (fun cs (x:Value × Nat)=>match x with | (c,j)=>cs.setIfInBounds (o + j) c) cs=(v.cells.toList.zipIdx 0).foldl (fun (cs:Array Value) (p:Value × Nat)=>cs.setIfInBounds (o + p.2) p.1) cs:=by
     rw[← Array.foldl_toList,Array.toList_zipIdx]
    obtain ⟨e,f⟩:=LQ o v.cells.toList 0 cs;have n : Vs G w (v.cells.zipIdx.foldl (fun cs (x:Value × Nat)=>match x with | (c,j)=>cs.setIfInBounds (o + j) c) cs) (over ds o d.cells):=by
     rw[hfold];refine ⟨by rw[e,FR ds o _ hle,hv.1],fun j c _ hc a=>?_⟩;rw[f j] at hc;rw[Od ds o _ hle] at a;simp only[gD,gV] at hc;by_cases b:o≤j∧j < o + d.cells.length
     ·rw[if_pos b] at a;rw[if_pos ⟨b.1,by omega,by have:=hv.1; omega⟩] at hc;exact hV _ _ _ (by simpa using hc) a
     ·rw[if_neg b] at a;rw[if_neg (by omega)] at hc;exact hv.2 _ _ _ hc a
    obtain ⟨cs',g,r⟩:=SI place ps qs _ _ ds' (by simpa using hl) (fun j p q l m=>hp (j + 1) p q l m) n h;refine ⟨cs',?_,r⟩;simp only[Instr.fill,hpl];rw[if_neg (by have:=hv.1; simp; omega)];exact g
   ·cases h
 | [],_ :: _,_,_,_,hl,_,_,_=>by simp at hl
 | _ :: _,[],_,_,_,hl,_,_,_=>by simp at hl
theorem Vs.vals (cs:Array Value):Vs G w cs (cs.toList.map .val) :=
 ⟨by simp,fun _ c _ hc hd=>by
  simp only[eK,fk,hc,eH,Option.some.injEq] at hd;subst hd;exact .val c⟩
theorem Xf {t:TypeId} {ps:Array (Nat × Value)} {qs:List (Nat × D)} (hl:ps.size=qs.length) (hp:∀ (j:Nat) p q,ps[j]?=some p→qs[j]?=some q→p.1=q.1∧V G w p.2 q.2)
  {v:D} (h:OU P t qs=some v):∃ x,(Instr.build t ps).run P w=.ok x w∧V G w x v:=by
 unfold OU at h;split at h
 ·rename_i z k a c;cases e:Ky (fun i=>k[i]?) (z.cells.toList.map .val) qs with
  | none=>rw[e] at h; cases h
  | some l =>
   rw[e] at h;cases h;obtain ⟨g,d,b⟩:=SI (G:=G) (w:=w) (fun i=>k[i]?) ps.toList qs z.cells _ l (by simpa using hl) (fun j p q d b=>hp j p q (by simpa using d) b) (Vs.vals _) e;refine ⟨.agg g,run_build w t ps g ?_,.agg b.1 b.2⟩;unfold Cj at c;unfold AL at a;split at c
   ·rename_i n m;cases f:P.info? t with
    | none=>rw[f] at a; cases a
    | some o =>
     rw[f] at a;simp only[fT] at a;unfold Program.built;simp only[f,m,a,c];simpa using d
   ·cases c
 ·cases h
theorem V4 {t:TypeId} (h:¬ AV P t=true):P.concrete t=true:=by
 unfold AV at h;unfold Program.concrete;split <;> simp_all
theorem aaq {P:Program} {G:Gh} {w:World} {t:TypeId} {x l h:Value} {dx dl dh v:D} (hx:V G w x dx) (hl:V G w l dl) (hh:V G w h dh) (hd:subD P t dx dl dh=some v) :
  ∃ z,(Instr.sliceAt t x (some l) (some h) none).run P w=.ok z w∧V G w z v:=by
 unfold subD at hd;split at hd
 ·have b:=V.of_val hx;have c:=V.of_val hl;have d:=V.of_val hh;subst b c d;split at hd
  ·rename_i i;obtain ⟨h0,e,f,g⟩:=i;cases hd;have a:P.underlying t=some .string:=by
    unfold Hk at h0;split at h0
    ·assumption
    ·cases h0
   refine ⟨_,?_,.val _⟩;unfold Instr.sliceAt;simp only[Sem.run_bind,run_underlying a,Result.andThen_ok];exact run_slice_string w t _ _ _ _ _ a e f g
  ·cases hd
 ·cases hd
theorem Xg {P:Program} {t:TypeId} {d v:D} (h:capD P t d=some v):∃ b n c e,d=.val (.slice b n c)∧AM P t=some e∧v=.val (.int .i64 c):=by
 unfold capD at h;split at h
 ·split at h
  ·rename_i f;obtain ⟨e,a⟩:=fP.1 f;cases h;exact ⟨_,_,_,e,rfl,a,rfl⟩
  ·cases h
 ·cases h
theorem SJ {mx:Bool} {d d' v:D} (h:mmD mx d d'=some v):∃ k a b,d=.val (.int k a)∧d'=.val (.int k b)∧v=.val (.int k (if mx=true then (if b > a then b else a) else (if b < a then b else a))):=by
 unfold mmD at h;split at h
 ·split at h
  ·rename_i k a e b c;subst c;cases h;exact ⟨k,a,b,rfl,rfl,rfl⟩
  ·cases h
 ·cases h
theorem Xh {y:Operand} (h:OZ y=true):y=.const .nilIface:=by
 unfold OZ at h;split at h
 ·rfl
 ·cases h
theorem V5 {P:Program} {G:Gh} {w:World} {op:BinOp} {t:TypeId} {xo:Operand} {x:Value} {d v:D} (hx:V G w x d) (h:JP P t op d=some v) :
  ∃ z,(do eqGuard op t xo (.const .nilIface) x .nilIface; binOp op t x .nilIface:Sem Value).run P w=.ok z w∧V G w z v:=by
 have k:∀ {b:Bool},(if AV P t=true∧hasT P t=true then (eqR op b).map D.val else none)=some v→(∃ g,P.underlying t=some (.interface g))∧(op=.eql∧v=.val (.bool b)∨op=.neq∧v=.val (.bool (!b))):=by
  intro b h;split at h
  ·rename_i l;refine ⟨?_,?_⟩
   ·obtain ⟨a,c⟩:=l;unfold AV at a;unfold hasT at c;split at a
    ·exact ⟨_,by assumption⟩
    ·rename_i e; rw[e] at c; cases c
    ·cases a
   ·cases op <;> simp[eqR] at h
    ·exact .inl ⟨rfl,h.symm⟩
    ·exact .inr ⟨rfl,h.symm⟩
  ·cases h
 have run:∀ {b:Bool},(Op.equal t x .nilIface).run P w=.ok b w→eqGuard op t xo (.const .nilIface) x .nilIface=pure ()→(op=.eql∧v=.val (.bool b)∨op=.neq∧v=.val (.bool (!b))) →
   ∃ z,(do eqGuard op t xo (.const .nilIface) x .nilIface; binOp op t x .nilIface:Sem Value).run P w=.ok z w∧V G w z v:=by
  intro b i j h;rcases h with ⟨rfl,rfl⟩ | ⟨rfl,rfl⟩
  ·exact ⟨.bool b,by rw[j]; simp only[binOp,Sem.run_bind,i,Result.andThen_ok,Sem.run_pure],.val _⟩
  ·exact ⟨.bool (!b),by rw[j]; simp only[binOp,Sem.run_bind,i,Result.andThen_ok,Sem.run_pure],.val _⟩
 cases hx with
 | iface q =>
  obtain ⟨⟨g,f⟩,h⟩:=k h;rename_i m n o p;have a:∀ d:Nat,(Op.equalIn (d + 1) t (.iface m n) .nilIface).run P w=.ok false w:=fun d=>by simp[Op.equalIn,run_underlying f]
  exact run (a 9999) (eqGuard_at_iface _ _ _ _ _ _ _) h
 | val =>
  unfold JP at h;split at h
  ·rename_i e; cases e
  ·rename_i e;cases e;obtain ⟨⟨g,f⟩,h⟩:=k h;have a:∀ d:Nat,(Op.equalIn (d + 1) t .nilIface .nilIface).run P w=.ok true w:=fun d=>by simp[Op.equalIn,run_underlying f]
   refine run (a 9999) ?_ h;unfold eqGuard;rcases h with ⟨rfl,_⟩ | ⟨rfl,_⟩ <;> simp <;> rfl
  ·cases h
 | _=>simp[JP] at h
theorem O8 {t:TypeId} (h:egOf P t=false) (op:BinOp) (xo yo:Operand) (xs ys:Array Value):(eqGuard op t xo yo (.agg xs) (.agg ys)).run P w=.ok () w:=by
 unfold egOf at h;unfold eqGuard;cases op <;> simp[Sem.run_bind,run_program,h,Result.andThen,pure]
theorem Xi {G:Gh} {op:BinOp} {t:TypeId} {xo yo:Operand} {x y:Value} {d i v:D} (hx:V G w x d) (hy:V G w y i) (h:OX P t op d i=some v) :
  ∃ z,(do eqGuard op t xo yo x y; binOp op t x y:Sem Value).run P w=.ok z w∧V G w z v:=by
 unfold OX at h;split at h
 ·rename_i E F;split at h
  ·rename_i C e c u B A;split at h
   ·rename_i p;obtain ⟨q,n,o⟩:=p;have l:x=.agg e.toArray:=Jc (k:=.agg e.toArray) hx (by simp[keyD,B]);have m:y=.agg c.toArray:=Jc (k:=.agg c.toArray) hy (by simp[keyD,A]);subst l m;have j:=KS.eq_run (w:=w) u (a:=.agg e.toArray) (b:=.agg c.toArray) (by simpa [KS.fits] using n) (by simpa [KS.fits] using o);have s:=O8 (P:=P) (w:=w) q op xo yo e.toArray c.toArray;have g:(open Classical in decide (Value.agg e.toArray=Value.agg c.toArray))=(open Classical in decide (e=c)):=by
     rw[ge];simp
    obtain ⟨r,f,rfl⟩:=ee.1 h;refine ⟨r,?_,.val _⟩;rw[Sem.run_bind,s];simp only[Result.andThen_ok];cases op <;> simp only[eqR,reduceCtorEq,Option.some.injEq] at f
    ·subst f;simp only[binOp,Sem.run_bind,j,Result.andThen_ok,Sem.run_pure,g]
    ·subst f;simp only[binOp,Sem.run_bind,j,Result.andThen_ok,Sem.run_pure,g]
   ·cases h
  ·cases h
 ·cases h
theorem ZFS {t e:TypeId} (he:AM P t=some e) {k:Nat} (hk:szOf P e=some k) {a:Option Addr} {n cap:Nat} (hn:n≤cap) {lo hi:Option Value} {l h:Nat} (hl:lo=none∧l=0∨∃ q,lo=some (.int q l)) (hh:hi=none∧h=n∨∃ q,hi=some (.int q h)) (h1:l≤h) (h2:h≤n) :
  (Instr.sliceAt t (.slice a n cap) lo hi none).run P w=.ok (.slice (if cap=l then a else a.map (·.add (l * k))) (h - l) (cap - l)) w:=by
 have b:=BT he;have d:∀ (q:IntKind) (i y:Nat) c,i≤y→(Instr.sliceBound (.int q i) y c).run P w=.ok i w:=fun q i y c hi=>by
  simp[Instr.sliceBound,asIntOf,hi]
 have f:(Instr.sliceBounds true n cap lo hi none).run P w=.ok (l,h,cap) w:=by
  rcases hl with ⟨rfl,rfl⟩ | ⟨q,rfl⟩ <;> rcases hh with ⟨rfl,rfl⟩ | ⟨q',rfl⟩ <;>
   simp[Instr.sliceBounds,d,h1,show h≤cap by omega,Sem.run_bind,Result.andThen]
 unfold Instr.sliceAt;simp only[Sem.run_bind,run_underlying b,Result.andThen_ok];simp[Instr.slice,run_underlying b,f,Ck hk,Sem.run_bind,Result.andThen]
theorem MR {w0:World} {κ:Kp} (ho:Objs w0 G w κ) {t:TypeId} {x:Value} {d v:D} (hx:V G w x d) {lo hi:Option Value} {l:Int} {h:Option Int} (hl:lo=none∧l=0∨∃ q,lo=some (.int q l)) (hh:hi=none∧h=none∨∃ q n,hi=some (.int q n)∧h=some n)
  (hs:sliD P κ t d l h=some v):∃ z,(Instr.sliceAt t x lo hi none).run P w=.ok z w∧V G w z v:=by
 have Q:∀ c : Nat,(c : Int)=l→(lo=none∧c=0∨∃ q,lo=some (.int q (c : Int))):=fun c p=>by
  rcases hl with ⟨s,B⟩ | ⟨q,s⟩
  ·exact .inl ⟨s,by omega⟩
  ·exact .inr ⟨q,by rw[s,p]⟩
 have O:∀ (n R : Nat),(R : Int)=h.getD n→(hi=none∧R=n∨∃ q,hi=some (.int q (R : Int))):=fun n R p=>by
  rcases hh with ⟨s,B⟩ | ⟨q,m,s,B⟩
  ·subst B; exact .inl ⟨s,by simp at p; omega⟩
  ·subst B; exact .inr ⟨q,by rw[s]; simp at p; rw[p]⟩
 unfold sliD at hs;split at hs
 ·rename_i e p;split at hs
  ·rename_i k N;split at hs
   ·rename_i xf rows;split at hs
    ·rename_i F;obtain ⟨h0,s,B,ae⟩:=F;cases hs;generalize E:(h.getD (rows.length:Int))=H at *;obtain ⟨c,rfl⟩:∃ c : Nat,l=(c : Int):=⟨l.toNat,by omega⟩
     obtain ⟨f,rfl⟩:∃ f : Nat,H=(f : Int):=⟨H.toNat,by omega⟩
     have J:c≤f:=by omega
     have y:f≤rows.length:=by omega
     simp only[gw];have aa:((rows.take f).drop c).length=f - c:=by simp; omega
     cases hx with
     | nilsl =>
      obtain rfl:c=0:=by simp at y; omega
      obtain rfl:f=0:=by simpa using y
      exact ⟨_,ZFS p N (ec _) (Q 0 rfl) (O 0 0 (by simpa using E.symm)) J (ec _),by simpa using V.nilsl false⟩
     | esl a =>
      obtain rfl:c=0:=by simp at y; omega
      obtain rfl:f=0:=by simpa using y
      exact ⟨_,ZFS p N (ec _) (Q 0 rfl) (O 0 0 (by simpa using E.symm)) J (ec _),by simpa using V.esl a false⟩
     | sl X hn q2 q3 W Y F hV =>
      rename_i b U n M A;subst hn;refine ⟨_,ZFS p N q3 (Q c rfl) (O _ f E.symm) J y,?_⟩;by_cases hz:f - c=0
      ·have a0:(rows.take f).drop c=[]:=ex (by omega);rw[a0,hz];by_cases I:M=c
       ·subst I;rw[if_pos rfl,gJ];exact .esl _ _
       ·rw[if_neg I];simp only[eH,Addr.add_lit];exact .sl (rows:=[]) (n:=0) (k:=A) X rfl (fun h=>by cases h) (dX _) W (fun i r o=>by simp at o) (fun i r j d o=>by simp at o) (fun i r j d o=>by simp at o)
      ·have I:M≠c:=by omega
       rw[if_neg I];have a8 : A=k:=by
        have Z:0 < rows.length:=by omega
        have a1:=Y 0 _ (dO Z);have a2:=ae _ (dP Z);omega
       subst a8;have T:∀ (i:Nat) r,((rows.take f).drop c)[i]?=some r→rows[c + i]?=some r:=fun i r o=>by
        rw[eR,eb] at o;split at o
        ·exact o
        ·cases o
       simp only[eH,Addr.add_lit];refine .sl (rows:=(rows.take f).drop c) (n:=f - c) (k:=A) (fun i j=>X (c + i) j) aa.symm (fun h=>by cases h) (by omega) W (fun i r o=>Y _ _ (T i r o)) (fun i r j d o S=>?_) (fun i r j d o S=>hV _ _ _ _ (T i r o) S);have:=F _ _ _ _ (T i r o) S;rw[← this];have e1:U + c * A + (i * A + j)=U + ((c + i) * A + j):=by rw[fG]; omega
       rw[e1]
    ·cases hs
   ·rename_i nm len;split at hs
    ·rename_i t' A rows hκ;split at hs
     ·rename_i F;obtain ⟨rfl,an,h0,s,B⟩:=F;cases hs;obtain ⟨u,xs,hρ,ad,_⟩:=LL ho hκ;generalize E:(h.getD (rows.length:Int))=H at *;obtain ⟨c,rfl⟩:∃ c : Nat,l=(c : Int):=⟨l.toNat,by omega⟩
      obtain ⟨f,rfl⟩:∃ f : Nat,H=(f : Int):=⟨H.toNat,by omega⟩
      have J:c≤f:=by omega
      have y:f≤rows.length:=by omega
      cases hx with
      | own K =>
       rw[K] at hρ;cases hρ;rcases ad.2 with ⟨a0,hz⟩ | ⟨g,M,al,hv,_,_,ac,_⟩
       ·omega
       ·cases hv;refine ⟨_,ZFS p N ac (Q c rfl) (O _ f E.symm) J y,?_⟩;simp only[gw,show ((f : Int) - (c : Int)).toNat=f - c by omega];split
        ·exact .osl K (by omega) (by omega) fun h=>by omega
        ·exact .osl K (by omega) (by omega) fun h=>by simp[Addr.add_lit]
     ·cases hs
    ·cases hs
   ·rename_i nm A U len;split at hs
    ·rename_i F;obtain ⟨rfl,h0,s,B⟩:=F;cases hs;generalize E:(h.getD (len:Int))=H at *;obtain ⟨c,rfl⟩:∃ c : Nat,l=(c : Int):=⟨l.toNat,by omega⟩
     obtain ⟨f,rfl⟩:∃ f : Nat,H=(f : Int):=⟨H.toNat,by omega⟩
     have J:c≤f:=by omega
     have y:f≤len:=by omega
     cases hx with
     | osl K hC a9 ha =>
      rename_i b M L C a;refine ⟨_,ZFS p N a9 (Q c rfl) (O _ f E.symm) J y,?_⟩;simp only[gw,show ((f : Int) - (c : Int)).toNat=f - c by omega];by_cases I:M=c
      ·rw[if_pos I];exact .osl K (by omega) (by omega) fun h=>by omega
      ·rw[if_neg I];refine .osl K (by omega) (by omega) fun h=>?_;rw[ha (by omega)];simp[Addr.add_lit,fG]
    ·cases hs
   ·cases hs
  ·cases hs
 ·cases hs
theorem Hm {x:Value} {d:D} {n:Int} (hx:V G w x d) (h:Iw d=some n):∃ q,x=.int q n:=by
 unfold Iw at h;split at h
 ·cases h; exact ⟨_,V.of_val hx⟩
 ·cases h
theorem Xj {w0:World} {κ:Kp} (ho:Objs w0 G w κ) {t:TypeId} {x:Value} {d v:D} (hx:V G w x d) {lo hi:Option Value} {dl dh:Option D} (hl:lo=none∧dl=none∨∃ a b,lo=some a∧dl=some b∧V G w a b) (hh:hi=none∧dh=none∨∃ a b,hi=some a∧dh=some b∧V G w a b)
  (hs:OY P κ t d dl dh=some v):∃ z,(Instr.sliceAt t x lo hi none).run P w=.ok z w∧V G w z v:=by
 rcases hl with ⟨rfl,rfl⟩ | ⟨a,b,rfl,rfl,e⟩ <;> rcases hh with ⟨rfl,rfl⟩ | ⟨a',b',rfl,rfl,hab'⟩ <;> simp only[OY] at hs
 ·exact MR ho hx (.inl ⟨rfl,rfl⟩) (.inl ⟨rfl,rfl⟩) hs
 ·obtain ⟨n,c,hs⟩:=fj.1 hs;obtain ⟨q,rfl⟩:=Hm hab' c;exact MR ho hx (.inl ⟨rfl,rfl⟩) (.inr ⟨q,n,rfl,rfl⟩) hs
 ·obtain ⟨n,c,hs⟩:=fj.1 hs;obtain ⟨q,rfl⟩:=Hm e c;exact MR ho hx (.inr ⟨q,rfl⟩) (.inl ⟨rfl,rfl⟩) hs
 ·split at hs
  ·rename_i j g;cases hs;exact aaq hx e hab' g
  ·obtain ⟨n,c,hs⟩:=fj.1 hs;obtain ⟨h,f,hs⟩:=fj.1 hs;obtain ⟨q,rfl⟩:=Hm e c;obtain ⟨i,rfl⟩:=Hm hab' f;exact MR ho hx (.inr ⟨q,rfl⟩) (.inr ⟨i,h,rfl,rfl⟩) hs
theorem V6 {E:Ctx} {o:Oper} {e:Operand→D} {κ:Kp} {v:D} (h:dopR E.P o e κ=some v):Yields E o e κ v:=by
 intro w0 hA G w ρ hw j L;unfold dopR at h;split at h
 ·rename_i x g;cases h;exact ⟨ρ x,by simp[execOp,g],j x (by simp[g,Op.operands])⟩
 ·rename_i x g;cases h;exact ⟨ρ x,by simp[execOp,g],j x (by simp[g,Op.operands])⟩
 ·rename_i c a b g;have B:=j c (by simp[g,Op.operands]);split at h
  ·rename_i J;rw[J] at B;cases h;exact ⟨ρ a,by simp[execOp,g,V.of_val B,asBool],j a (by simp[g,Op.operands])⟩
  ·rename_i J;rw[J] at B;cases h;exact ⟨ρ b,by simp[execOp,g,V.of_val B,asBool],j b (by simp[g,Op.operands])⟩
  ·cases h
 ·rename_i t x g;obtain ⟨y,A,m⟩:=SA L (j x (by simp[g,Op.operands])) h;exact ⟨y,by simp[execOp,g,A],m⟩
 ·rename_i x g;exact aap g (j x (by simp[g,Op.operands])) h
 ·rename_i op t x y t2 g;split at h
  ·rename_i hk a0;obtain rfl:=Xh hk;obtain ⟨z,q,m⟩:=V5 (P:=E.P) (op:=op) (t:=t) (xo:=x) (j x (by simp[g,Op.operands])) h;have A:=j (.const .nilIface) (by simp[g,Op.operands]);rw[a0] at A;have hn:ρ (.const .nilIface)=.nilIface:=V.of_val A;refine ⟨z,?_,m⟩;simp only[execOp,g,hn];rw[Sem.run_bind,q];simp
  ·have a3:∃ z,(do eqGuard op t x y (ρ x) (ρ y); binOp op t (ρ x) (ρ y):Sem Value).run E.P w=.ok z w∧V G w z v:=by
    split at h
    ·rename_i v' J;cases h;exact aao (P:=E.P) (op:=op) (t:=t) (xo:=x) (yo:=y) (j x (by simp[g,Op.operands])) (j y (by simp[g,Op.operands])) J
    ·exact Xi (P:=E.P) (op:=op) (t:=t) (xo:=x) (yo:=y) (j x (by simp[g,Op.operands])) (j y (by simp[g,Op.operands])) h
   obtain ⟨z,q,m⟩:=a3;refine ⟨z,?_,m⟩;simp only[execOp,g];rw[Sem.run_bind,q];simp
 ·rename_i op t x g;obtain ⟨z,q,m⟩:=abt (P:=E.P) (j x (by simp[g,Op.operands])) h;exact ⟨z,by simp[execOp,g,q],m⟩
 ·rename_i s d x g;obtain ⟨z,q,m⟩:=YO (P:=E.P) (j x (by simp[g,Op.operands])) h;exact ⟨z,by simp[execOp,g,q],m⟩
 ·rename_i t x g;split at h
  ·cases h
  ·rename_i hi;cases h;exact ⟨_,by simp[execOp,g,run_makeInterface w t (ρ x) (V4 hi)],.iface (j x (by simp[g,Op.operands]))⟩
 ·rename_i X a c g;cases h;refine ⟨.func X (a.map ρ) (c.map ρ),by simp[execOp,g,Instr.makeFunc],.func (by simp) (by simp) (fun i x d r K=>?_) (fun i x d r K=>?_)⟩
  ·simp only[gz,ee] at r;obtain ⟨y,A,rfl⟩:=r;simp only[eK,fk,A,eH,Option.some.injEq] at K;subst K;exact j y (by simp only[g,Op.operands]; exact gi.2 (.inl (gB A)))
  ·simp only[gz,ee] at r;obtain ⟨y,A,rfl⟩:=r;simp only[eK,fk,A,eH,Option.some.injEq] at K;subst K;exact j y (by simp only[g,Op.operands]; exact gi.2 (.inr (gB A)))
 ·rename_i t x f g;obtain ⟨z,q,m⟩:=RS (P:=E.P) (j x (by simp[g,Op.operands])) h;exact ⟨z,by simp[execOp,g,q],m⟩
 ·rename_i t x f g;obtain ⟨z,q,m⟩:=Xc (P:=E.P) (j x (by simp[g,Op.operands])) h;exact ⟨z,by simp[execOp,g,q],m⟩
 ·rename_i t x i g;obtain ⟨z,q,m⟩:=RU (P:=E.P) L (j x (by simp[g,Op.operands])) (j i (by simp[g,Op.operands])) h;exact ⟨z,by simp[execOp,g,q],m⟩
 ·rename_i t x i g;obtain ⟨z,q,m⟩:=Xd (P:=E.P) (j x (by simp[g,Op.operands])) (j i (by simp[g,Op.operands])) h;exact ⟨z,by simp[execOp,g,q],m⟩
 ·rename_i t i g;have r:=j t (by simp[g,Op.operands]);split at h
  ·rename_i vs I;rw[I] at r;generalize hρ:ρ t=u at r;cases r with
   | tup hs Y =>
    rename_i R;have T:i < R.size:=by
     have:=(dW.1 h).1;omega
    exact ⟨R[i],by simp[execOp,g,hρ,Instr.extract,T],Y i _ _ (by simp[T]) h⟩
  ·cases h
 ·rename_i t x k ok g;obtain ⟨z,q,m⟩:=V2 (P:=E.P) L (j x (by simp[g,Op.operands])) (j k (by simp[g,Op.operands])) h;exact ⟨z,by simp[execOp,g,q],m⟩
 ·rename_i t ps g;obtain ⟨z,q,m⟩:=Xf (P:=E.P) (G:=G) (w:=w) (t:=t) (ps:=ps.map fun p=>(p.1,ρ p.2)) (qs:=ps.toList.map fun p=>(p.1,e p.2)) (by simp) (fun _ p _ U W=>by
   simp only[gz,ee] at U;obtain ⟨y,A,rfl⟩:=U;simp only[eK,fk,A,eH,Option.some.injEq] at W;subst W;refine ⟨rfl,j y.2 ?_⟩;simp only[g,Op.operands,List.mem_toArray,eh];exact ⟨y,by simpa using gB A,rfl⟩) h
  exact ⟨z,by simp[execOp,g,q],m⟩
 ·rename_i t x l S g;obtain ⟨z,q,m⟩:=Xj (P:=E.P) (lo:=l.map ρ) (hi:=S.map ρ) L (j x (by simp[g,Op.operands])) (by
    cases l with
    | none=>exact .inl ⟨rfl,rfl⟩
    | some l=>exact .inr ⟨_,_,rfl,rfl,j l (by simp[g,Op.operands])⟩) (by
    cases S with
    | none=>exact .inl ⟨rfl,rfl⟩
    | some l=>exact .inr ⟨_,_,rfl,rfl,j l (by simp[g,Op.operands])⟩) h
  exact ⟨z,by simp[execOp,g,q],m⟩
 ·rename_i c g;split at h
  ·rename_i x t B C I;have r:x∈c.operands:=by
    unfold Call.operands;refine gi.2 (.inr ?_);rw[← gE,C];simp
   obtain ⟨z,q,m⟩:=YM (P:=E.P) (ty:=o.type) L (j x (by simpa [g,Op.operands] using r)) h;have H : c.args=#[x]:=by rw[← gv (xs:=c.args),C]
   have O : c.argTypes=#[t]:=by rw[← gv (xs:=c.argTypes),I]
   exact ⟨z,by simp[execOp,g,resolve,B,invoke,builtin,H,O,q],m⟩
  ·rename_i x t B C I;have r:x∈c.operands:=by
    unfold Call.operands;refine gi.2 (.inr ?_);rw[← gE,C];simp
   obtain ⟨b,n,k,e',M,Z,rfl⟩:=Xg h;have F:=j x (by simpa [g,Op.operands] using r);rw[M] at F;have H : c.args=#[x]:=by rw[← gv (xs:=c.args),C]
   have O : c.argTypes=#[t]:=by rw[← gv (xs:=c.argTypes),I]
   exact ⟨.int .i64 k,by simp[execOp,g,resolve,B,invoke,builtin,H,O,V.of_val F,Builtin.cap_,run_underlying (BT Z),Result.andThen]; rfl,.val _⟩
  ·rename_i x y t t' B C I;obtain ⟨r,A⟩:x∈c.operands∧y∈c.operands:=by
    unfold Call.operands;refine ⟨gi.2 (.inr ?_),gi.2 (.inr ?_)⟩ <;> (rw[← gE,C]; simp)
   obtain ⟨k,a,b,M,Q,rfl⟩:=SJ h;have F:=j x (by simpa [g,Op.operands] using r);have N:=j y (by simpa [g,Op.operands] using A);rw[M] at F;rw[Q] at N;have H : c.args=#[x,y]:=by rw[← gv (xs:=c.args),C]
   exact ⟨_,by simp[execOp,g,resolve,B,invoke,builtin,H,V.of_val F,V.of_val N,run_max_int2,Result.andThen],.val _⟩
  ·rename_i x y t t' B C I;obtain ⟨r,A⟩:x∈c.operands∧y∈c.operands:=by
    unfold Call.operands;refine ⟨gi.2 (.inr ?_),gi.2 (.inr ?_)⟩ <;> (rw[← gE,C]; simp)
   obtain ⟨k,a,b,M,Q,rfl⟩:=SJ h;have F:=j x (by simpa [g,Op.operands] using r);have N:=j y (by simpa [g,Op.operands] using A);rw[M] at F;rw[Q] at N;have H : c.args=#[x,y]:=by rw[← gv (xs:=c.args),C]
   exact ⟨_,by simp[execOp,g,resolve,B,invoke,builtin,H,V.of_val F,V.of_val N,run_min_int2,Result.andThen],.val _⟩
  ·cases h
 ·cases h
end
section
variable {w0:World} {G:Gh} {w:World} {κ:Kp}
def Gh.upd (G:Gh) (n:Nm) (v:Value):Gh:={ G with ρ:=fun m=>if m=n then some v else G.ρ m }
def Gh.add (G:Gh) (b:Nat):Gh:={ G with F:=fun x=>G.F x∨x=b }
def single (n:Nm) (o:Ob):Kp:=fun m=>if n=m then some o else none
theorem CI (n:Nm) (o:Ob):get [(n,o)]=single n o:=by
 funext m
 simp[get,single]
theorem Bj (a b:Sto):get (a++b)=Kp.or (get a) (get b):=by
 funext n
 induction a with
 | nil=>simp[get,Kp.or]
 | cons p r ih =>
  obtain ⟨m,o⟩:=p;simp only[f8,get,Kp.or] at *;split
  ·simp
  ·exact ih
theorem O9 (κ:Kp):Kp.or (get []) κ=κ:=by
 funext n
 simp[Kp.or,get]
theorem Bel.of_grown (hb:Bel w0.heap.size w0 w) {w' : World} {row:Option Nat} (hg:Gr w w' row) (hr:∀ b,row=some b→w0.heap.size≤b):Bel w0.heap.size w0 w' :=
 ⟨hb.toBelow.grown hg.togrownBy hb.size hr,ef hb.drawn hg.drawn⟩
theorem V.upd {n:Nm} {u:Value} (hn:G.ρ n=none) {w' : World} (hh:∀ b,G.F b→w'.heap[b]?=w.heap[b]?) {v:Value} {d:D} (h:V G w v d):V (G.upd n u) w' v d :=
 h.mono (fun _ h=>h) hh fun _ v hm=>by
  unfold Gh.upd;simp only;split
  ·rename_i he; subst he; rw[hn] at hm; cases hm
  ·exact hm
theorem Gf (hw:WF w0 G w) (ho:Objs w0 G w κ) {n:Nm} (hn:G.ρ n=none) (hg:n.g < G.top) {w' : World} (hgr:Gr w w' none) {v:Value} {ob:Ob}
  (hb:∀ b,blk v=some b→w.heap.size≤b∧b < w'.heap.size) (hov:OV w0 (G.upd n v) w' v ob) :
  WF w0 (G.upd n v) w'∧Objs w0 (G.upd n v) w' (Kp.or (single n ob) κ)∧Step (fun m=>m=n) G w κ (G.upd n v) w' (Kp.or (single n ob) κ):=by
 have t:(G.upd n v).ρ n=some v:=by simp[Gh.upd]
 have i:∀ m,m≠n→(G.upd n v).ρ m=G.ρ m:=fun m a=>by simp[Gh.upd,a]
 have K:κ n=none:=by
  cases r:κ n with
  | none=>rfl
  | some o =>
   obtain ⟨u,y,_⟩:=ho.ob n o r;rw[hn] at y; cases y
 have B:∀ b,b < w.heap.size→w'.heap[b]?=w.heap[b]?:=fun b hb=>hgr.block b hb (by simp);have split:∀ m o,Kp.or (single n ob) κ m=some o→(m=n∧o=ob)∨(m≠n∧κ m=some o):=by
  intro m o h;unfold Kp.or single at h;by_cases a:n=m
  ·rw[if_pos a] at h; exact .inl ⟨a.symm,by simpa using h.symm⟩
  ·rw[if_neg a] at h; exact .inr ⟨fun e=>a e.symm,by simpa using h⟩
 refine ⟨⟨Bel.of_grown hw.below hgr (fun b h=>by cases h),hw.old,fun b j=>eV (hw.lt b j) hgr.size,fun m u a=>?_⟩,⟨fun m o a=>?_,fun m x o D u I b k c p d l z A=>?_⟩,?_⟩
 ·by_cases q:m=n
  ·subst q;rw[t] at a; cases a;exact ⟨hg,fun b f=>⟨ef hw.below.size (hb b f).1,(hb b f).2⟩⟩
  ·rw[i m q] at a;obtain ⟨k,c⟩:=hw.nm m u a;exact ⟨k,fun b f=>⟨(c b f).1,eV (c b f).2 hgr.size⟩⟩
 ·rcases split m o a with ⟨rfl,rfl⟩ | ⟨p,r⟩
  ·exact ⟨v,t,hov,fun b f j=>by have:=hw.lt b j; have:=(hb b f).1; omega⟩
  ·obtain ⟨u,y,E,j⟩:=ho.ob m o r;refine ⟨u,by rw[i m p]; exact y,E.mono (fun _ _ H=>H.upd hn fun b j=>B b (hw.lt b j)) (fun b f=>B b (E.lt b f)),j⟩
 ·rcases split m o k with ⟨rfl,rfl⟩ | ⟨a,F⟩ <;> rcases split x D c with ⟨rfl,rfl⟩ | ⟨hm',k2⟩
  ·exact p rfl
  ·rw[t] at d; cases d;rw[i x hm'] at l;obtain ⟨J,s,C,_⟩:=ho.ob x D k2;rw[l] at s; cases s;have:=C.lt b A;have:=(hb b z).1;omega
  ·rw[t] at l; cases l;rw[i m a] at d;obtain ⟨J,s,C,_⟩:=ho.ob m o F;rw[d] at s; cases s;have:=C.lt b z;have:=(hb b A).1;omega
  ·rw[i m a] at d;rw[i x hm'] at l;exact ho.ne m x o D u I b F k2 p d l z A
 ·refine ⟨hgr.size,fun b f _=>B b f,fun _ h=>h,fun b h=>.inl h,fun m u a=>?_,fun m k c d=>?_,ec _,fun b ⟨m,o,u,k,c,d⟩=>?_,fun m a=>?_,rfl⟩
  ·rw[i m (fun e=>by subst e; rw[hn] at a; cases a)]; exact a
  ·rw[i m d]; exact c
  ·rcases split m o k with ⟨rfl,rfl⟩ | ⟨p,r⟩
   ·rw[t] at c; cases c; exact .inl (hb b d).1
   ·rw[i m p] at c; exact .inr ⟨m,o,u,r,c,d⟩
  ·by_cases q:m=n
   ·subst q; exact .inr hn
   ·refine .inl ?_;unfold Kp.or single at a;rw[if_neg (fun e=>q e.symm)] at a;simpa using a
theorem Xk (hw:WF w0 G w) (ho:Objs w0 G w κ) (o:Obj) :
  WF w0 (G.add w.heap.size) (w.alloc o)∧Objs w0 (G.add w.heap.size) (w.alloc o) κ∧Step (fun _=>False) G w κ (G.add w.heap.size) (w.alloc o) κ:=by
 have f:∀ b,b < w.heap.size→(w.alloc o).heap[b]?=w.heap[b]?:=fun b a=>Dw w o b a;have q:(w.alloc o).heap.size=w.heap.size + 1:=World.size_alloc _ _;have k:∀ v d,V G w v d→V (G.add w.heap.size) (w.alloc o) v d:=fun v d h=>h.mono (fun b h=>.inl h) (fun b c=>f b (hw.lt b c)) (fun _ _ h=>h);have p:∀ n o v b,κ n=some o→G.ρ n=some v→blk v=some b→b < w.heap.size:=fun n o v b _ i j=>((hw.nm n v i).2 b j).2;refine ⟨⟨hw.below.more hw.below.size o,fun b a=>.inl (hw.old b a),fun b c=>?_,fun n v e=>⟨(hw.nm n v e).1,fun b a=>⟨((hw.nm n v e).2 b a).1,by have:=((hw.nm n v e).2 b a).2; omega⟩⟩⟩,
  ⟨fun n m e=>?_,ho.ne⟩,⟨by omega,fun b a _=>f b a,fun b h=>.inl h,fun b h=>?_,fun _ _ h=>h,fun _ _ h _=>h,ec _,fun b h=>.inr h,fun _ h=>.inl h,rfl⟩⟩
 ·rcases c with h | h
  ·have:=hw.lt b h; omega
  ·omega
 ·obtain ⟨v,l,g,c⟩:=ho.ob n m e;refine ⟨v,l,g.mono k (fun b a=>f b (g.lt b a)),fun b a h=>?_⟩;rcases h with h | h
  ·exact c b a h
  ·have:=g.lt b a; omega
 ·rcases h with h | h
  ·exact .inl h
  ·exact .inr (.inl (by omega))
end
def rsv (g:Nat) (dst:Option Tmp):Nm→Prop:=fun n=>n.g=g∧dst=some n.i
def QOp (E:Ctx) (g:Nat) (o:Oper) (e:Operand→D) (κ:Kp) (v:D) (nw:Sto):Prop :=
 ∀ w0,E.A w0→∀ G w (a:Act),WF w0 G w→(∀ x∈o.op.operands,V G w (a.eval x) (e x))→Objs w0 G w κ→(∀ d,o.dst=some d→g < G.top∧∀ j,G.ρ ⟨g,d,j⟩=none) →
  ∀ (K:Act→World→Prop) (Q' : Exit→Act→World→Prop),
   (∀ G' w' x,WF w0 G' w'→V G' w' x v→Objs w0 G' w' (Kp.or (get nw) κ)→Step (rsv g o.dst) G w κ G' w' (Kp.or (get nw) κ)→K (a.put o.dst x) w')→∀ r,o.wpIn (Fr r) 0 E.P a w K Q'
theorem QOp.of_yields {E:Ctx} {g:Nat} {o:Oper} {e:Operand→D} {κ:Kp} {v:D} (h:Yields E o e κ v):QOp E g o e κ v []:=by
 intro l d G w a c i b _ K m f;obtain ⟨x,k,j⟩:=h l d G w a.eval c i b;refine FQ k ?_;exact f G w x c j (by rw[O9]; exact b) (by rw[O9]; exact .refl _ _ _ _)
theorem Vi {E:Ctx} {g d:Nat} {o:Oper} {e:Operand→D} {κ:Kp} {t:TypeId} {cs:List D} (hd:o.dst=some d)
  (hrun:∀ w0,E.A w0→∀ G w (ρ:Operand→Value),WF w0 G w→(∀ x∈o.op.operands,V G w (ρ x) (e x))→∃ c,(execOp ρ o).run E.P w=.ok (.value (.pointer (some ⟨w.heap.size,0,none⟩))) (w.alloc (.cells c t))∧Vs G w c cs) :
  QOp E g o e κ (.ptr ⟨g,d,0⟩ 0) [(⟨g,d,0⟩,.box t cs)]:=by
 intro w0 n G w a f r I z K L q;obtain ⟨c,u,j⟩:=hrun w0 n G w a.eval f r;obtain ⟨B,h⟩:=z d hd;refine FQ u ?_;have C:Gr w (w.alloc (.cells c t)) none:=GV w _;have H:(w.alloc (.cells c t)).heap[w.heap.size]?=some (.cells c t (0,0)):=Dv w _;have M:(w.alloc (.cells c t)).heap.size=w.heap.size + 1:=World.size_alloc _ _;obtain ⟨k,l,m⟩:=Gf f I (h 0) B (v:=.pointer (some ⟨w.heap.size,0,none⟩)) (ob:=.box t cs) C (fun b s=>by simp[blk] at s; omega)
  ⟨w.heap.size,c,rfl,H,j.1,fun i x d J y=>(j.2 i x d J y).upd (h 0) (fun b p=>Dw w _ b (f.lt b p))⟩
 refine q _ _ _ k (.ptr (by simp[Gh.upd])) (by rw[CI]; exact l) ?_;rw[CI];exact m.weaken fun _ _ F=>by subst F; exact ⟨rfl,hd⟩
def Flat (G:Gh) (w:World) (k:Nat) (rows:List D) (xs:Nat→Option Value):Prop :=
 ∀ (i:Nat) r,rows[i]?=some r→r.cells.length=k∧∀ (j:Nat) d,r.cells[j]?=some d→∃ x,xs (i * k + j)=some x∧V G w x d
def Gg (k:Nat):List D→List (Nat × D)→Option (List D)
 | rows,[]=>some rows
 | rows,(i,d) :: r=>if i < rows.length∧d.cells.length=k∧d.cells.all D.one=true then Gg k (rows.set i d) r else none
def EA (P:Program) (t:TypeId) (n:Nat) (ps:List (Nat × D)):Option D :=
 match AM P t with
 | some e=>match szOf P e,AL P e with
  | some k,some z=>if z.cells.size=k∧n * k≤16777216∧0 < k∧0 < n then (Gg k (List.replicate n (ofV z)) ps).map (.sl true) else none
  | _,_=>none
 | none=>none
theorem QW (z:Value):(ofV z).cells=z.cells.toList.map .val:=by
 cases z <;> simp[ofV,D.cells,Value.cells]
theorem Vj {k i j i' j' : Nat} (hj:j < k) (hj' : j' < k) (h:i * k + j=i' * k + j'):i=i'∧j=j':=by
 have a:(i * k + j) / k=i:=by rw[gf,Nat.mul_add_div (by omega),Nat.div_eq_of_lt hj]; rfl
 have b:(i' * k + j') / k=i':=by rw[gf,Nat.mul_add_div (by omega),Nat.div_eq_of_lt hj']; rfl
 have:i=i':=by rw[← a,← b,h]
 subst this;exact ⟨rfl,by omega⟩
theorem FT {k i n:Nat} (h:i < n):i * k + k≤n * k:=by
 rw[← Nat.succ_mul];exact fw k h
theorem Iz {G:Gh} {w:World} {k:Nat}:∀ (ps:List (Nat × Value)) (qs:List (Nat × D)) (cs:Array Value) (rows rows' : List D),
  ps.length=qs.length→(∀ (j:Nat) p q,ps[j]?=some p→qs[j]?=some q→p.1=q.1∧V G w p.2 q.2)→cs.size=rows.length * k→Flat G w k rows (cs[·]?)→Gg k rows qs=some rows' →
  ∃ cs' : Array Value,Instr.fill (fun i=>some (i * k,k)) cs ps=some cs'∧cs'.size=rows'.length * k∧rows'.length=rows.length∧Flat G w k rows' (cs'[·]?)
 | [],[],cs,rows,rows',_,_,hs,hv,h=>by
  simp only[Gg,Option.some.injEq] at h;subst h;exact ⟨cs,rfl,hs,rfl,hv⟩
 | (i,v) :: ps,(i',d) :: qs,cs,rows,rows',hl,hp,hsz,hv,h=>by
  obtain ⟨rfl,hvd⟩:i=i'∧V G w v d:=hp 0 _ _ rfl rfl;simp only[Gg] at h;split at h
  ·rename_i hc;obtain ⟨hi,rfl,h1⟩:=hc;obtain ⟨⟨hs,hV⟩,_⟩:=hvd.cells h1;have hrow:=FT (k:=d.cells.length) hi;have hfold:v.cells.zipIdx.foldl (fun cs (x:Value × Nat)=>match x with | (c,j)=>cs.setIfInBounds (i * d.cells.length + j) c) cs=(v.cells.toList.zipIdx 0).foldl (fun (cs:Array Value) (p:Value × Nat)=>cs.setIfInBounds (i * d.cells.length + p.2) p.1) cs:=by
    rw[← Array.foldl_toList,Array.toList_zipIdx]
   obtain ⟨n,l⟩:=LQ (i * d.cells.length) v.cells.toList 0 cs;have E : Flat G w d.cells.length (rows.set i d) ((v.cells.zipIdx.foldl (fun cs (x:Value × Nat)=>match x with | (c,j)=>cs.setIfInBounds (i * d.cells.length + j) c) cs)[·]?):=by
    intro e r b;rw[gl] at b;split at b
    ·rename_i f;subst f;cases b;refine ⟨rfl,fun j g a=>?_⟩;have A:=(dW.1 a).1;refine ⟨v.cells[j]'(by omega),?_,hV j _ _ (by simp[show j < v.cells.size by omega]) a⟩;simp only;rw[hfold,l,if_pos ⟨by omega,by simp; omega,by omega⟩];simp[show i * d.cells.length + j - i * d.cells.length=j by omega,show j < v.cells.size by omega]
    ·rename_i f;obtain ⟨o,s⟩:=hv e r b;refine ⟨o,fun j g a=>?_⟩;obtain ⟨x,m,F⟩:=s j g a;refine ⟨x,?_,F⟩;have A:=(dW.1 a).1;simp only at m ⊢;rw[hfold,l,if_neg ?_]
     ·exact m
     ·rintro ⟨I,H,J⟩;simp only[gV] at H;have:e=i:=(Vj (k:=d.cells.length) (i:=e) (j:=j) (i':=i) (j':=e * d.cells.length + j - i * d.cells.length) (by omega) (by omega) (by omega)).1;exact f this.symm
   obtain ⟨cs',z,t,u,y⟩:=Iz ps qs _ _ rows' (by simpa using hl) (fun j p q B C=>hp (j + 1) p q B C) (by rw[hfold,n,gg]; exact hsz) E h;refine ⟨cs',?_,t,by rw[u,gg],y⟩;simp only[Instr.fill];rw[if_neg (by simp; omega)];exact z
  ·cases h
 | [],_ :: _,_,_,_,hl,_,_,_,_=>by simp at hl
 | _ :: _,[],_,_,_,hl,_,_,_,_=>by simp at hl
theorem Pa {G:Gh} {w:World} {n k:Nat} {z:Value} (hz:z.cells.size=k) :
  ((Array.range (n * k)).map (z.cells[· % z.cells.size]!)).size=(List.replicate n (ofV z)).length * k∧Flat G w k (List.replicate n (ofV z)) (((Array.range (n * k)).map (z.cells[· % z.cells.size]!))[·]?):=by
 refine ⟨by simp,fun i _ b=>?_⟩;have c:i < n:=by
  have:=(dW.1 b).1;simpa using this
 rw[List.getElem?_replicate,if_pos c] at b;cases b;rw[QW];refine ⟨by simp[hz],fun j _ a=>?_⟩;have d:j < k:=by
  have:=(dW.1 a).1;simpa [hz] using this
 have e:i * k + j < n * k:=by have:=FT (k:=k) c; omega
 have f:(i * k + j) % k=j:=by rw[gf,Nat.mul_add_mod]; exact Nat.mod_eq_of_lt d
 refine ⟨z.cells[j]'(by omega),?_,?_⟩
 ·simp only[gz,Array.getElem?_range,e,↓reduceIte,eH,hz,f];simp[show j < z.cells.size by omega]
 ·simp only[eK,fk,show j < z.cells.size by omega,fD,eH,Option.some.injEq] at a;subst a;exact .val _
theorem Qh {E:Ctx} {g:Nat} {o:Oper} {e:Operand→D} {κ:Kp} {t:TypeId} {n:Nat} {ps:Array (Nat × Operand)} (hop:o.op=.buildSlice t n ps) {v:D} (h:EA E.P t n (ps.toList.map fun p=>(p.1,e p.2))=some v) :
  QOp E g o e κ v []:=by
 unfold EA at h;split at h
 ·rename_i m U;split at h
  ·rename_i k z X hz;split at h
   ·rename_i T;obtain ⟨a7,ac,Y,a1⟩:=T;cases A:Gg k (List.replicate n (ofV z)) (ps.toList.map fun p=>(p.1,e p.2)) with
    | none=>rw[A] at h; cases h
    | some L =>
     rw[A] at h;cases h;intro w0 hA G w a H S ho _ K Q' R;obtain ⟨z1,z2⟩:=Pa (G:=G) (w:=w) (n:=n) a7;obtain ⟨c,V,ad,Z,u⟩:=Iz (G:=G) (w:=w) (k:=k) (ps.toList.map fun p=>(p.1,a.eval p.2)) (ps.toList.map fun p=>(p.1,e p.2)) _ _ L (by simp) (fun j p _ B C=>by
      simp only[eK,ee] at B C;obtain ⟨y,I,rfl⟩:=B;obtain ⟨y',J,rfl⟩:=C;rw[I] at J;cases J;refine ⟨rfl,S y.2 ?_⟩;simp only[hop,Op.operands,List.mem_toArray,eh];exact ⟨y,ew I,rfl⟩) z1 z2 A
     have a4:(execOp a.eval o).run E.P w=.ok (.value (.slice (some ⟨w.heap.size,0,none⟩) n n)) (w.alloc (.cells c m)):=by
      have O:¬ (n * k > 2 ^ 24):=by omega
      have h0:¬ (n * k=0):=by
       have:=Nat.mul_pos a1 Y;omega
      have W : Instr.fill (fun i=>some (i * k,k)) (Array.map (fun x=>z.cells[x % z.cells.size]!) (Array.range (n * k))) (List.map (fun p=>(p.1,a.eval p.2)) ps.toList)=some c:=V;simp only[execOp,hop,Sem.run_bind,Instr.buildSlice,run_underlying (BT U),Result.andThen_ok,Ck X,O,h0,↓reduceIte,Ee hz,Sem.run_pure,Array.toList_map,W,newRow,run_newObj]
      rfl
     obtain ⟨M,N,q⟩:=Xk H ho (.cells c m);refine FQ a4 ?_;have a2:(w.alloc (.cells c m)).heap[w.heap.size]?=some (.cells c m (0,0)):=Dv w _;have a0:L.length=n:=by simpa using Z
     refine R _ _ _ M (.sl (k:=k) (fun i j=>(c[i * k + j]?).getD undef) a0.symm (fun _=>rfl) (ec _) (.inr rfl) (fun i r f=>(u i r f).1) (fun i r j d f s=>?_) (fun i r j d f s=>?_)) (by rw[O9]; exact N) (by rw[O9]; exact q.weaken fun _ _ h=>h.elim)
     ·obtain ⟨x,l,_⟩:=(u i r f).2 j d s;simp only at l;rw[eN,cell_of_row _ _ _ _ _ _ a2,l]
      rfl
     ·obtain ⟨x,l,a5⟩:=(u i r f).2 j d s;simp only at l;rw[l];exact a5.mono q.F (fun b Q=>Dw w _ b (H.lt b Q)) q.ρ
   ·cases h
  ·cases h
 ·cases h
theorem aar {E:Ctx} {g d:Nat} {o:Oper} {e:Operand→D} {κ:Kp} {t el:TypeId} {k:Nat} (hd:o.dst=some d) (hop:o.op=.buildSlice t 0 #[]) (he:AM E.P t=some el) (hk:szOf E.P el=some k) :
  QOp E g o e κ (.own ⟨g,d,0⟩ 0) [(⟨g,d,0⟩,.arr el k [])]:=by
 intro J F G w a b H B p K C l;have n:(execOp a.eval o).run E.P w=.ok (.value (.slice (some ⟨w.heap.size,0,none⟩) 0 0)) (w.alloc (.cells #[] el)):=by
  have q:∀ z:Array Value,Instr.fill (fun i=>some (i * k,k)) ((Array.range 0).map fun x=>z[x % z.size]!) []=some #[]:=fun z=>by simp[Instr.fill]
  simp only[execOp,hop,Sem.run_bind,Instr.buildSlice,run_underlying (BT he),Result.andThen_ok,Ck hk,Nat.zero_mul,Nat.not_lt_zero,gt_iff_lt,↓reduceIte,Sem.run_pure,Array.map_empty,Array.toList_empty,q,newRow,run_newObj]
  rfl
 obtain ⟨s,r⟩:=p d hd;refine FQ n ?_;have u:Gr w (w.alloc (.cells #[] el)) none:=GV w _;have A:(w.alloc (.cells #[] el)).heap[w.heap.size]?=some (.cells #[] el (0,0)):=Dv w _;have I:(w.alloc (.cells #[] el)).heap.size=w.heap.size + 1:=World.size_alloc _ _;obtain ⟨c,f,j⟩:=Gf b B (r 0) s (v:=.slice (some ⟨w.heap.size,0,none⟩) 0 0) (ob:=.arr el k []) u (fun _ m=>by simp[blk] at m; omega)
  ⟨[],⟨by simp,.inr ⟨w.heap.size,0,#[],rfl,b.below.size,A,by simp,by simp,by simp,by simp⟩⟩,fun i _ h=>by simp at h⟩
 refine l _ _ _ c (.own (by simp[Gh.upd])) (by rw[CI]; exact f) ?_;rw[CI];exact j.weaken fun _ _ y=>by subst y; exact ⟨rfl,hd⟩
theorem aas {E:Ctx} {g d:Nat} {o:Oper} {e:Operand→D} {κ:Kp} {t:TypeId} (ks:KS) (hd:o.dst=some d) (hop:o.op=.makeMap t none) :
  QOp E g o e κ (.mref ⟨g,d,0⟩) [(⟨g,d,0⟩,.map ks [])]:=by
 intro H B G w a z C y p K A k;have n:(execOp a.eval o).run E.P w=.ok (.value (.map (some w.heap.size))) (w.alloc (.map #[] 0)):=by
  simp only[execOp,hop,Option.map_none,Sem.run_bind]
  rfl
 obtain ⟨r,q⟩:=p d hd;refine FQ n ?_;have s:Gr w (w.alloc (.map #[] 0)) none:=GV w _;have x:(w.alloc (.map #[] 0)).heap[w.heap.size]?=some (.map #[] 0):=Dv w _;have F:(w.alloc (.map #[] 0)).heap.size=w.heap.size + 1:=World.size_alloc _ _;obtain ⟨f,h,j⟩:=Gf z y (q 0) r (v:=.map (some w.heap.size)) (ob:=.map ks []) s (fun _ l=>by simp[blk] at l; omega)
  ⟨w.heap.size,#[],0,rfl,x,⟨by simp,fun m b=>by simp at b⟩,rfl,fun i m b=>by simp at b,fun i m c b=>by simp at b,fun i m c b=>by simp at b⟩
 refine k _ _ _ f (.mref (by simp[Gh.upd])) (by rw[CI]; exact h) ?_;rw[CI];exact j.weaken fun _ _ u=>by subst u; exact ⟨rfl,hd⟩
noncomputable def dop (P:Program) (g:Nat) (o:Oper) (e:Operand→D) (κ:Kp):Option (D × Sto) :=
 match o.op with
 | .alloc t=>match o.dst,AL P t with
  | some d,some z=>some (.ptr ⟨g,d,0⟩ 0,[(⟨g,d,0⟩,.box t (z.cells.toList.map .val))])
  | _,_=>none
 | .box t x=>match o.dst with
  | some d=>if (e x).cells.all D.one=true then some (.ptr ⟨g,d,0⟩ 0,[(⟨g,d,0⟩,.box t (e x).cells)]) else none
  | none=>none
 | .makeMap t r=>match o.dst,r,(mapT P t).bind fun k=>KS.of P k.1 with
  | some d,none,some ks=>some (.mref ⟨g,d,0⟩,[(⟨g,d,0⟩,.map ks [])])
  | _,_,_=>none
 | .buildSlice t n ps=>if n=0∧ps=#[] then (match o.dst,AM P t with
   | some d,some el=>(szOf P el).map fun k=>(.own ⟨g,d,0⟩ 0,[(⟨g,d,0⟩,.arr el k [])])
   | _,_=>none)
  else (EA P t n (ps.toList.map fun p=>(p.1,e p.2))).map fun v=>(v,[])
 | _=>(dopR P o e κ).map fun v=>(v,[])
theorem Hy {E:Ctx} {g:Nat} {o:Oper} {e:Operand→D} {κ:Kp} {v:D} {nw:Sto} (h:dop E.P g o e κ=some (v,nw)):QOp E g o e κ v nw:=by
 unfold dop at h;split at h
 ·rename_i t a;split at h
  ·rename_i d z b u;cases h;refine Vi b fun B l G w ρ s i=>⟨z.cells,?_,Vs.vals _⟩
   simp only[execOp,a,Sem.run_bind,Instr.alloc,Ee u,Result.andThen_ok,newVar,newRow,run_newObj,Sem.run_pure]
   rfl
  ·cases h
 ·rename_i t x a;split at h
  ·rename_i d b;split at h
   ·rename_i j;cases h;refine Vi b fun B l G w ρ s i=>⟨(ρ x).cells,?_,((i x (by simp[a,Op.operands])).cells j).1⟩
    simp only[execOp,a,Sem.run_bind,Instr.box,Result.andThen_ok,newVar,newRow,run_newObj,Sem.run_pure]
    rfl
   ·cases h
  ·cases h
 ·rename_i t r a;split at h
  ·rename_i d y b _;cases h;exact aas y b a
  ·cases h
 ·rename_i t n F a;split at h
  ·rename_i q;obtain ⟨rfl,rfl⟩:=q;split at h
   ·rename_i d C b m;obtain ⟨k,p,c⟩:=ee.1 h;cases c;exact aar b a m p
   ·cases h
  ·simp only[ee] at h;obtain ⟨A,f,c⟩:=h;cases c;exact Qh a f
 ·simp only[ee] at h;obtain ⟨A,f,c⟩:=h;cases c;exact .of_yields (V6 f)
def set:Sto→Nm→Ob→Sto
 | [],_,_=>[]
 | (m,x) :: r,n,o=>if m=n then (n,o) :: r else (m,x) :: set r n o
def del:Sto→Nm→Sto
 | [],_=>[]
 | (m,x) :: r,n=>if m=n then del r n else (m,x) :: del r n
theorem Vk (σ:Sto) (n:Nm) (o:Ob) (h:get σ n≠none) (m:Nm):get (set σ n o) m=if n=m then some o else get σ m:=by
 induction σ with
 | nil=>exact absurd rfl h
 | cons p r ih =>
  obtain ⟨k,x⟩:=p;simp only[set];by_cases a:k=n
  ·subst a;rw[if_pos rfl];simp only[get];split <;> simp_all
  ·rw[if_neg a];simp only[get,if_neg a] at h;simp only[get,ih h];by_cases b:k=m
   ·subst b;rw[if_pos rfl,if_neg (fun e=>a e.symm),if_pos rfl]
   ·rw[if_neg b,if_neg b]
theorem GX (σ:Sto) (n m:Nm):get (del σ n) m=if n=m then none else get σ m:=by
 induction σ with
 | nil=>simp[get,del]
 | cons p r ih =>
  obtain ⟨k,x⟩:=p;simp only[del];by_cases a:k=n
  ·subst a;rw[if_pos rfl,ih];simp only[get];split <;> simp_all
  ·rw[if_neg a];simp only[get,ih];by_cases b:k=m
   ·subst b;rw[if_pos rfl,if_neg (fun e=>a e.symm),if_pos rfl]
   ·rw[if_neg b,if_neg b]
def St.put (st:St) (dst:Option Tmp) (v:D) (nw:Sto):St :=
 match dst with
 | some d=>{ env:=(d,v) :: st.env,σ:=nw++st.σ }
 | none=>{ st with σ:=nw++st.σ }
def Dt (ops:List Oper) (env:List (Nat × D)) (o:Oper):Option Bool :=
 match o.guard with
 | none=>some true
 | some (j,b)=>match (ops[j]?).bind (·.dst) with
  | some t=>match lk env t with
   | some (.val (.bool c))=>some (c == b)
   | some (.val (.tuple _))=>some false
   | _=>none
  | none=>some false
theorem FU {w0:World} {G:Gh} {w:World} {a:Act} {st:St} (hr:Rel w0 G w a st) {ops:List Oper} {o:Oper} {b:Bool} (h:Dt ops st.env o=some b):Region.wanted o (yielded ops.toArray a.tmps)=b:=by
 unfold Dt at h;unfold Region.wanted;split at h
 ·rename_i e; cases h; simp[e]
 ·rename_i j k e;simp only[e];unfold yielded;simp only[eA];split at h
  ·rename_i t g;simp only[g,fT];split at h
   ·rename_i c f;cases h;obtain ⟨d,i⟩:=hr.env t _ f;have:=V.of_val i;simp only[er,d,getElem?_pos,eX] at this;simp only[d,getElem?_pos,this];cases c <;> cases k <;> rfl
   ·rename_i l f;cases h;obtain ⟨d,i⟩:=hr.env t _ f;have:=V.of_val i;simp only[er,d,getElem?_pos,eX] at this;simp only[d,getElem?_pos,this];cases k <;> rfl
   ·cases h
  ·rename_i g;cases h;simp only[g,Option.bind_none];cases k <;> rfl
def AOps (E:Ctx) (N:Nat) (ops:List Oper) (g:Nat) (Q:St→Prop) (rest:List Oper) (st:St):Prop :=
 ∀ w0,E.A w0→∀ G w a,a.tmps.size=N→Rel w0 G w a st→g < G.top→(rest.filterMap (·.dst)).Nodup→(∀ o∈rest,∀ d,o.dst=some d→d < N∧∀ j,G.ρ ⟨g,d,j⟩=none) →
  ∀ (Q' : Exit→Act→World→Prop),(∀ G' st' a' w',a'.tmps.size=N→Rel w0 G' w' a' st'→Step (fun n=>n.g=g) G w (get st.σ) G' w' (get st'.σ)→Q st'→Q' .normal a' w') →
   ∀ r,wpListIn (Fr r) 0 E.P ops.toArray Q' rest a w
section
variable {E:Ctx} {N:Nat} {ops:List Oper} {g:Nat} {Q:St→Prop} {st:St} {o:Oper} {rest:List Oper}
theorem IA (h:Q st):AOps E N ops g Q [] st :=
 fun _ _ G w a hN hr _ _ _ _ hQ _=>hQ G st a w hN hr (.refl _ _ _ _) h
theorem Rel.put {w0:World} {G G' : Gh} {w w' : World} {a:Act} {nw:Sto} {dst:Option Tmp} {x:Value} {v:D} {R:Nm→Prop} {κ' : Kp} (hr:Rel w0 G w a st) (hs:Step R G w (get st.σ) G' w' κ') (hκ:κ'=get (nw++st.σ))
  (hw:WF w0 G' w') (ho:Objs w0 G' w' κ') (hv:V G' w' x v) (hd:∀ d,dst=some d→d < a.tmps.size):Rel w0 G' w' (a.put dst x) (st.put dst v nw):=by
 subst hκ;cases dst with
 | none=>exact ⟨hw,fun t d b=>let ⟨e,c⟩:=hr.env t d b; ⟨e,c.step hs hr.wf hr.objs⟩,ho,hr.defers.step hs hr.wf hr.objs⟩
 | some d =>
  refine ⟨hw,fun t h b=>?_,ho,hr.defers.step hs hr.wf hr.objs⟩;have g:=hd d rfl;simp only[St.put,lk] at b;simp only[Act.put,gZ,er,eW];split at b
  ·rename_i f;subst f;cases b;refine ⟨g,?_⟩;rw[if_pos rfl,if_pos g];exact hv
  ·rename_i f;obtain ⟨e,c⟩:=hr.env t h b;refine ⟨e,?_⟩;rw[if_neg f];rw[er] at c;exact c.step hs hr.wf hr.objs
theorem EB {a:Act} {dst:Option Tmp} {x:Value}:(a.put dst x).tmps.size=a.tmps.size:=by
 cases dst <;> simp[Act.put]
theorem Step.fresh {R:Nm→Prop} {G G' : Gh} {w w' : World} {κ κ' : Kp} (hs:Step R G w κ G' w' κ') {n:Nm} (hg:n.g < G.top) (hn:G.ρ n=none) (hR:¬ R n):G'.ρ n=none:=hs.ρ' n hg hn hR
theorem SK {v:D} {nw:Sto} (hw:Dt ops st.env o=some true) (hq:QOp E g o (ev E st.env) (get st.σ) v nw) (h:AOps E N ops g Q rest (st.put o.dst v nw)):AOps E N ops g Q (o :: rest) st:=by
 intro u k G w a q e l c f A I r;simp only[wpListIn];rw[if_pos (FU e hw)];refine hq u k G w a e.wf (fun x _=>e.ev k x) e.objs (fun d b=>⟨l,(f o (by simp) d b).2⟩) _ _ (fun y T x P O L i=>?_) r;have t:Kp.or (get nw) (get st.σ)=get (nw++st.σ):=(Bj _ _).symm;have M:=e.put i t P L O (fun d b=>by rw[q]; exact (f o dY d b).1);have R:(st.put o.dst v nw).σ=nw++st.σ:=by cases o.dst <;> rfl
 have s : (rest.filterMap (·.dst)).Nodup∧∀ d,o.dst=some d→d∉rest.filterMap (·.dst):=by
  cases b:o.dst with
  | none=>simp only[fR,b] at c; exact ⟨c,fun d h=>by cases h⟩
  | some d=>simp only[fR,b,fA] at c; exact ⟨c.2,fun _ h=>by cases h; exact c.1⟩
 refine h u k y T _ (by rw[EB,q]) M (eV l i.top) s.1 (fun n m d b=>⟨(f n (by simp[m]) d b).1,fun j=>i.fresh (by exact l) ((f n (by simp[m]) d b).2 j) fun ⟨_,J⟩=>?_⟩) A (fun z S B U C F p H=>I z S B U C F ?_ H) r
 ·exact s.2 d J (fJ.2 ⟨n,m,b⟩)
 ·rw[R,← t] at p;exact (i.weaken fun _ _ K=>K.1).trans p
theorem Xl (hw:Dt ops st.env o=some false) (h:AOps E N ops g Q rest (st.put o.dst (.val undef) [])):AOps E N ops g Q (o :: rest) st:=by
 intro H t G w a j c y e k m u r;simp only[wpListIn];rw[FU c hw,if_neg (by simp)];refine ⟨fun f _=>Fi r f,?_⟩;have B:=c.put (nw:=[]) (x:=undef) (v:=.val undef) (dst:=o.dst) (.refl no G w (get st.σ)) rfl c.wf c.objs (.val _) (fun d b=>by rw[j]; exact (k o dY d b).1);have C:(st.put o.dst (.val undef) []).σ=st.σ:=by cases o.dst <;> rfl
 have z : (rest.filterMap (·.dst)).Nodup:=by
  cases b:o.dst with
  | none=>simpa only[fR,b] using e
  | some d=>simp only[fR,b,fA] at e; exact e.2
 refine h H t G w _ (by rw[EB,j]) B y z (fun D A=>k D (by simp[A])) m (fun l F n I p q i s=>u l F n I p q ?_ s) r;rw[C] at i;exact i
def TOp (E:Ctx) (g:Nat) (o:Oper) (e:Operand→D) (κ:Kp) (v:D) (κ' : Kp):Prop :=
 ∀ w0,E.A w0→∀ G w (a:Act),WF w0 G w→(∀ x∈o.op.operands,V G w (a.eval x) (e x))→Objs w0 G w κ→(∀ d,o.dst=some d→g < G.top∧∀ j,G.ρ ⟨g,d,j⟩=none) →
  ∀ (K:Act→World→Prop) (Q' : Exit→Act→World→Prop),
   (∀ G' w' x,WF w0 G' w'→V G' w' x v→Objs w0 G' w' κ'→Step (rsv g o.dst) G w κ G' w' κ'→K (a.put o.dst x) w')→∀ r,o.wpIn (Fr r) 0 E.P a w K Q'
def St.env' (st:St) (dst:Option Tmp) (v:D) (σ:Sto):St :=
 match dst with
 | some d=>{ env:=(d,v) :: st.env,σ:=σ }
 | none=>{ env:=st.env,σ:=σ }
theorem Rel.put' {w0:World} {G G' : Gh} {w w' : World} {a:Act} {σ:Sto} {dst:Option Tmp} {x:Value} {v:D} {R:Nm→Prop} {κ' : Kp} (hr:Rel w0 G w a st) (hs:Step R G w (get st.σ) G' w' κ') (hκ:κ'=get σ)
  (hw:WF w0 G' w') (ho:Objs w0 G' w' κ') (hv:V G' w' x v) (hd:∀ d,dst=some d→d < a.tmps.size):Rel w0 G' w' (a.put dst x) (st.env' dst v σ):=by
 subst hκ;cases dst with
 | none=>exact ⟨hw,fun t d b=>let ⟨e,c⟩:=hr.env t d b; ⟨e,c.step hs hr.wf hr.objs⟩,ho,hr.defers.step hs hr.wf hr.objs⟩
 | some d =>
  refine ⟨hw,fun t h b=>?_,ho,hr.defers.step hs hr.wf hr.objs⟩;have g:=hd d rfl;simp only[St.env',lk] at b;simp only[Act.put,gZ,er,eW];split at b
  ·rename_i f;subst f;cases b;refine ⟨g,?_⟩;rw[if_pos rfl,if_pos g];exact hv
  ·rename_i f;obtain ⟨e,c⟩:=hr.env t h b;refine ⟨e,?_⟩;rw[if_neg f];rw[er] at c;exact c.step hs hr.wf hr.objs
theorem IB {v:D} {σ:Sto} (hw:Dt ops st.env o=some true) (hq:TOp E g o (ev E st.env) (get st.σ) v (get σ)) (h:AOps E N ops g Q rest (st.env' o.dst v σ)):AOps E N ops g Q (o :: rest) st:=by
 intro t k G w a q e l c f z H r;simp only[wpListIn];rw[if_pos (FU e hw)];refine hq t k G w a e.wf (fun x _=>e.ev k x) e.objs (fun d b=>⟨l,(f o (by simp) d b).2⟩) _ _ (fun u S x O M K i=>?_) r;have L:=e.put' (v:=v) (dst:=o.dst) i rfl O K M (fun d b=>by rw[q]; exact (f o dY d b).1);have P:(st.env' o.dst v σ).σ=σ:=by cases o.dst <;> rfl
 have s : (rest.filterMap (·.dst)).Nodup∧∀ d,o.dst=some d→d∉rest.filterMap (·.dst):=by
  cases b:o.dst with
  | none=>simp only[fR,b] at c; exact ⟨c,fun d h=>by cases h⟩
  | some d=>simp only[fR,b,fA] at c; exact ⟨c.2,fun _ h=>by cases h; exact c.1⟩
 refine h t k u S _ (by rw[EB,q]) L (eV l i.top) s.1 (fun n m d b=>⟨(f n (by simp[m]) d b).1,fun j=>i.fresh (by exact l) ((f n (by simp[m]) d b).2 j) fun ⟨_,I⟩=>?_⟩) z (fun y R A T B C p F=>H y R A T B C ?_ F) r
 ·exact s.2 d I (fJ.2 ⟨n,m,b⟩)
 ·rw[P] at p;exact (i.weaken fun _ _ J=>J.1).trans p
end
end Go.Ab
