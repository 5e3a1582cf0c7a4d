/- A part of the proof: ZAD. -/
import Derived.Test.YtnkpcgpmgkaakaaGreatZAC
namespace Go.Ab
open Go Go.RowKit
section
variable {w0:World} {G:Gh} {w:World} {κ:Kp}
def Kp.put (κ:Kp) (n:Nm) (o:Ob):Kp:=fun m=>if n=m then some o else κ m
def Kp.del (κ:Kp) (n:Nm):Kp:=fun m=>if n=m then none else κ m
theorem KD (σ:Sto) (n:Nm) (o:Ob) (h:get σ n≠none):get (set σ n o)=Kp.put (get σ) n o:=funext (Vk σ n o h)
theorem EV (hw:WF w0 G w) (ho:Objs w0 G w κ) {n:Nm} {ob ob' : Ob} {v:Value} (hn:κ n=some ob) (hv:G.ρ n=some v) {w' : World} (hgr:Gr w w' (blk v)) (hov:OV w0 G w' v ob') :
  WF w0 G w'∧Objs w0 G w' (κ.put n ob')∧Step (fun _=>False) G w κ G w' (κ.put n ob'):=by
 obtain ⟨E,s⟩:=hw.nm n v hv;have t:∀ b,blk v=some b→¬ G.F b:=by
  obtain ⟨u,p,_,i⟩:=ho.ob n ob hn;rw[hv] at p; cases p;exact i
 have B:WF w0 G w':=⟨Bel.of_grown hw.below hgr fun b f=>(s b f).1,hw.old,fun b i=>eV (hw.lt b i) hgr.size,fun m u a=>⟨(hw.nm m u a).1,fun b f=>⟨((hw.nm m u a).2 b f).1,eV ((hw.nm m u a).2 b f).2 hgr.size⟩⟩⟩
 have j:∀ b o,Blk G (single n o) b↔blk v=some b:=fun b o=>by
  constructor
  ·rintro ⟨m,D,u,d,g,C⟩;unfold single at d;split at d
   ·rename_i c; subst c; rw[hv] at g; cases g; exact C
   ·cases d
  ·exact fun h=>⟨n,o,v,by simp[single],hv,h⟩
 have A:Step (fun _=>False) G w (single n ob) G w' (single n ob') :=
  ⟨hgr.size,fun b f x=>hgr.block b f fun e=>x ((j b ob).2 e.symm),fun _ h=>h,fun _ h=>.inl h,fun _ _ h=>h,fun _ _ h _=>h,ec _,fun b h=>.inr ((j b ob).2 ((j b ob').1 h)),fun m a=>.inl (by unfold single at *; split at a <;> simp_all),rfl⟩
 have z:Objs w0 G w' (single n ob'):=by
  refine ⟨fun m o a=>?_,fun m _ o D u _ b d g y=>?_⟩
  ·unfold single at a;split at a
   ·rename_i c; subst c; cases a; exact ⟨v,hv,hov,t⟩
   ·cases a
  ·unfold single at d g;split at d
   ·split at g
    ·rename_i q r; exact absurd (q.symm.trans r) y
    ·cases g
   ·cases d
 obtain ⟨k,l⟩:=frame (κs:=single n ob) (τ:=κ.del n) hw ho (fun m o a=>by
   unfold single at a;split at a
   ·rename_i c; subst c; cases a; exact hn
   ·cases a) (fun m o a=>by
   unfold Kp.del at a;split at a
   ·cases a
   ·rename_i c; exact ⟨a,by simp[single,c]⟩) A z
 have c:Kp.or (single n ob') (κ.del n)=κ.put n ob':=by
  funext m
  unfold Kp.or single Kp.del Kp.put;split <;> simp
 rw[c] at k l;exact ⟨B,k,l⟩
theorem YP (hw:WF w0 G w) (ho:Objs w0 G w κ) {n n2:Nm} {ob ob' : Ob} {v v' : Value} (hn:κ n=some ob) (hv:G.ρ n=some v) (hn2:G.ρ n2=none) (hg2:n2.g < G.top) {w' : World} (hgr:Gr w w' (blk v))
  (hb:∀ b,blk v'=some b→blk v=some b∨(w.heap.size≤b∧b < w'.heap.size)) (hov:OV w0 (G.upd n2 v') w' v' ob') :
  WF w0 (G.upd n2 v') w'∧Objs w0 (G.upd n2 v') w' ((κ.del n).put n2 ob')∧Step (fun m=>m=n2) G w κ (G.upd n2 v') w' ((κ.del n).put n2 ob'):=by
 obtain ⟨K,j⟩:=hw.nm n v hv;have x:n≠n2:=fun e=>by subst e; rw[hv] at hn2; cases hn2
 have l:(G.upd n2 v').ρ n2=some v':=by simp[Gh.upd]
 have p:∀ m,m≠n2→(G.upd n2 v').ρ m=G.ρ m:=fun m a=>by simp[Gh.upd,a]
 have C:∀ b,blk v=some b→¬ G.F b:=by
  obtain ⟨u,y,_,i⟩:=ho.ob n ob hn;rw[hv] at y; cases y;exact i
 have I:WF w0 (G.upd n2 v') w':=⟨Bel.of_grown hw.below hgr fun b hb=>(j b hb).1,hw.old,fun b i=>eV (hw.lt b i) hgr.size,fun m u a=>by
  by_cases c:m=n2
  ·subst c;rw[l] at a; cases a;refine ⟨hg2,fun b k=>?_⟩;rcases hb b k with h | h
   ·exact ⟨(j b h).1,eV (j b h).2 hgr.size⟩
   ·exact ⟨ef hw.below.size h.1,h.2⟩
  ·rw[p m c] at a;exact ⟨(hw.nm m u a).1,fun b hb=>⟨((hw.nm m u a).2 b hb).1,eV ((hw.nm m u a).2 b hb).2 hgr.size⟩⟩⟩
 have t:∀ b,Blk G (single n ob) b↔blk v=some b:=fun b=>by
  constructor
  ·rintro ⟨m,J,u,d,f,q⟩;unfold single at d;split at d
   ·rename_i c; subst c; rw[hv] at f; cases f; exact q
   ·cases d
  ·exact fun h=>⟨n,ob,v,by simp[single],hv,h⟩
 have H:Step (fun m=>m=n2) G w (single n ob) (G.upd n2 v') w' (single n2 ob'):=by
  refine ⟨hgr.size,fun b hb D=>hgr.block b hb fun e=>D ((t b).2 e.symm),fun _ h=>h,fun _ h=>.inl h,fun m u a=>?_,fun m _ j B=>?_,ec _,fun b ⟨m,o,u,d,f,q⟩=>?_,fun m a=>?_,rfl⟩
  ·rw[p m (fun e=>by subst e; rw[hn2] at a; cases a)]; exact a
  ·rw[p m B]; exact j
  ·unfold single at d;split at d
   ·rename_i c; subst c; rw[l] at f; cases f;rcases hb b q with h | h
    ·exact .inr ((t b).2 h)
    ·exact .inl h.1
   ·cases d
  ·unfold single at a;split at a
   ·rename_i c; subst c; exact .inr hn2
   ·exact absurd rfl a
 have E:Objs w0 (G.upd n2 v') w' (single n2 ob'):=by
  refine ⟨fun m o a=>?_,fun m _ o J u _ b d f x=>?_⟩
  ·unfold single at a;split at a
   ·rename_i c; subst c; cases a;refine ⟨v',l,hov,fun b k i=>?_⟩;rcases hb b k with h | h
    ·exact C b h i
    ·have:=hw.lt b i; omega
   ·cases a
  ·unfold single at d f;split at d
   ·split at f
    ·rename_i z A; exact absurd (z.symm.trans A) x
    ·cases f
   ·cases d
 obtain ⟨r,s⟩:=frame (κs:=single n ob) (τ:=κ.del n) hw ho (fun m o a=>by
   unfold single at a;split at a
   ·rename_i c; subst c; cases a; exact hn
   ·cases a) (fun m o a=>by
   unfold Kp.del at a;split at a
   ·cases a
   ·rename_i c; exact ⟨a,by simp[single,c]⟩) H E
 have c:Kp.or (single n2 ob') (κ.del n)=(κ.del n).put n2 ob':=by
  funext m
  unfold Kp.or single Kp.del Kp.put;split <;> simp
 rw[c] at r s;exact ⟨I,r,s⟩
theorem Vs.over {cs:Array Value} {ds:List D} {new:Array Value} {nd:List D} {o:Nat} (h:Vs G w cs ds) (hn:Vs G w new nd) (ho:o + nd.length≤ds.length) :
  Vs G w (cs.toList.take o++new.toList++cs.toList.drop (o + new.size)).toArray (over ds o nd):=by
 have j:=h.1;have g:=hn.1;refine ⟨?_,fun i _ _ a b=>?_⟩
 ·rw[FR ds o nd ho];simp;omega
 ·rw[Od ds o nd ho] at b;simp only[eA] at a;have e:(cs.toList.take o).length=o:=by simp; omega
  split at b
  ·rename_i d;rw[eE,eJ (by omega),eF (by simp; omega),e] at a;exact hn.2 _ _ _ (by simpa using a) b
  ·rename_i d;by_cases c:i < o
   ·rw[eE,eF (by omega),eb,if_pos c] at a;exact h.2 _ _ _ (by simpa using a) b
   ·have f:(cs.toList.take o++new.toList).length=o + new.size:=by simp; omega
    rw[eJ (by omega),f,eR] at a;rw[show o + new.size + (i - (o + new.size))=i by omega] at a;exact h.2 _ _ _ (by simpa using a) b
end
section
variable {E:Ctx} {g:Nat} {o:Oper} {e:Operand→D} {κ:Kp}
theorem LR {P:Program} {w:World} {t u:TypeId} {b off:Nat} {v:Value} {c:Array Value} (hh:w.heap[b]?=some (.cells c u (0,0))) (hs:szOf P t=some v.cells.size) (hle:off + v.cells.size≤c.size) (h1:∀ x∈v.cells.toList,x.oneCell'=true) :
  (Instr.storeAt t (.pointer (some ⟨b,off,none⟩)) v).run P w=.ok () (w.setRow b (c.toList.take off++v.cells.toList++c.toList.drop (off + v.cells.size)).toArray):=by
 have:=run_storeCells_at P b off u v.cells.toList 0 c w hh (by simpa using hle) h1;simp only[gD,gV] at this;simp[Instr.storeAt,Instr.sureAddr,storeVar,Ck hs,this]
theorem Xm {t:TypeId} {ao x:Operand} (hop:o.op=.store t ao x) {n:Nm} {off:Nat} (ha:e ao=.ptr n off) {u:TypeId} {cs:List D} (hk:κ n=some (.box u cs)) {d:D} (hx:e x=d) (hs:szOf E.P t=some d.cells.length)
  (hle:off + d.cells.length≤cs.length) (h1:d.cells.all D.one=true):TOp E g o e κ (.val undef) (κ.put n (.box u (over cs off d.cells))):=by
 intro w0 hA G w a Z q l _ K Q' N;have m:=q ao (by simp[hop,Op.operands]);have B:=q x (by simp[hop,Op.operands]);rw[ha] at m;rw[hx] at B;obtain ⟨v,p,⟨b,c,rfl,r,X,O⟩,_⟩:=l.ob n _ hk;generalize Y : a.eval ao=va at m;cases m with
 | ptr C =>
  rw[p] at C;cases C;obtain ⟨A,V⟩:=B.cells h1;have T:=A.1;have W:=LR (P:=E.P) (t:=t) (v:=a.eval x) (off:=off) r (by rw[hs,T]) (by omega) V;have R:(execOp a.eval o).run E.P w=.ok .skip (w.setRow b (c.toList.take off++(a.eval x).cells.toList++c.toList.drop (off + (a.eval x).cells.size)).toArray):=by
   simp only[execOp,hop,Sem.run_bind,Y,W,Result.andThen_ok,Sem.run_pure]
  refine Qd R ?_;have s:=Vs.over (G:=G) (w:=w) (cs:=c) (ds:=cs) (o:=off) ⟨X,O⟩ A hle;have S:Gr w (w.setRow b (c.toList.take off++(a.eval x).cells.toList++c.toList.drop (off + (a.eval x).cells.size)).toArray) (blk (.pointer (some ⟨b,0,none⟩))) :=
   Gr.of ⟨rfl,rfl,rfl,by simp,fun k _ hk=>setRow_other w b k _ fun j=>hk (by simp[blk,j])⟩
  have U:¬ G.F b:=by
   obtain ⟨u',z,_,f⟩:=l.ob n _ hk;rw[p] at z; cases z;exact f b rfl
  obtain ⟨J,L,M⟩:=EV (ob':=.box u (over cs off d.cells)) Z l hk p S ⟨b,_,rfl,setRow_heap w b c _ u (0,0) r,s.1,fun i y I hy Q=>(s.2 i y I hy Q).mono (fun _ h=>h) (fun H f=>setRow_other w b H _ fun j=>U (j ▸ f)) (fun _ _ h=>h)⟩;exact N G _ _ J (.val _) L (M.weaken fun _ _ h=>h.elim)
def Jd (r:D) (cs:List D):D :=
 match r with
 | .agg _=>.agg cs
 | d=>cs.headD d
def Sq (r:D):Bool:=match r with | .agg _=>true | d=>d.one
theorem Pb {r:D} {cs:List D} (hr:Sq r=true) (hl:cs.length=r.cells.length) (h1:cs.all D.one=true∨∃ x,r=.agg x):(Jd r cs).cells=cs:=by
 cases r with
 | agg x=>rfl
 | any=>simp[Sq,D.one] at hr
 | tup=>simp[Sq,D.one] at hr
 | _ =>
  simp only[D.cells,gM] at hl
  match cs,hl with
  | [c],_ =>
   rcases h1 with h1 | ⟨x,h⟩
   ·simp only[List.all_cons,List.all_nil,gL] at h1;simp only[Jd,List.headD_cons];cases c <;> simp[D.one] at h1 <;> rfl
   ·cases h
theorem RW {t:TypeId} {ao x:Operand} (hop:o.op=.store t ao x) {n:Nm} {k i j:Nat} (ha:e ao=.aptr n k i j) {u:TypeId} {rows:List D} (hk:κ n=some (.arr u k rows)) {r:D} (hr:rows[i]?=some r) {d:D} (hx:e x=d)
  (hs:szOf E.P t=some d.cells.length) (hle:j + d.cells.length≤r.cells.length) (h1:d.cells.all D.one=true) (hrow:Sq r=true) (hone:(over r.cells j d.cells).all D.one=true∨∃ y,r=.agg y) :
  TOp E g o e κ (.val undef) (κ.put n (.arr u k (rows.set i (Jd r (over r.cells j d.cells))))):=by
 intro w0 hA G w a hw Q Y _ K Q' hK;have L:=Q ao (by simp[hop,Op.operands]);have a1:=Q x (by simp[hop,Op.operands]);rw[ha] at L;rw[hx] at a1;obtain ⟨v,hρ,⟨xs,ap,I⟩,al⟩:=Y.ob n _ hk;generalize au : a.eval ao=va at L;cases L with
 | aptr a4 =>
  rename_i b len A;rw[hρ] at a4;cases a4;obtain ⟨a0,an⟩:=a1.cells h1;have hl:=a0.1;have hi:=(dW.1 hr).1;have aq:=(I i r hr).1;have aF:=FT (k:=k) hi;rcases ap.2 with ⟨s,_⟩ | ⟨O,aC,f,s,ab,S,W,ac,ad,ar⟩
  ·cases s
  ·cases s;have aE:rows.length * k≤A * k:=fw k W;have Z:=LR (P:=E.P) (t:=t) (v:=a.eval x) (off:=i * k + j) S (by rw[hs,hl]) (by omega) an;have aw:=Pb (r:=r) (cs:=over r.cells j d.cells) hrow (FR _ _ _ hle) hone;generalize X:(f.toList.take (i * k + j)++(a.eval x).cells.toList++f.toList.drop (i * k + j + (a.eval x).cells.size))=q at Z;have am:q.length=f.size:=by rw[← X]; simp; omega
   have R:∀ m:Nat,q[m]?=if i * k + j≤m∧m < i * k + j + (a.eval x).cells.size then (a.eval x).cells[m - (i * k + j)]? else f[m]?:=by
    intro m;rw[← X];have aj:(f.toList.take (i * k + j)).length=i * k + j:=by simp; omega
    by_cases h1:m < i * k + j
    ·rw[eE,eF (by omega),eb,if_pos h1,if_neg (by omega)];simp
    ·by_cases h2:m < i * k + j + (a.eval x).cells.size
     ·rw[eE,eJ (by omega),eF (by simp; omega),aj,if_pos ⟨by omega,h2⟩];simp
     ·have ak:(f.toList.take (i * k + j)++(a.eval x).cells.toList).length=i * k + j + (a.eval x).cells.size:=by simp; omega
      rw[eJ (by omega),ak,eR,if_neg (by omega)];rw[show i * k + j + (a.eval x).cells.size + (m - (i * k + j + (a.eval x).cells.size))=m by omega];simp
   have ae:(execOp a.eval o).run E.P w=.ok .skip (w.setRow b q.toArray):=by
    simp only[execOp,hop,Sem.run_bind,au,Z,Result.andThen_ok,Sem.run_pure]
   refine Qd ae ?_;have af:Gr w (w.setRow b q.toArray) (blk (.slice (some ⟨b,0,none⟩) rows.length A)) :=
    Gr.of ⟨rfl,rfl,rfl,by simp,fun k _ hk=>setRow_other w b k _ fun H=>hk (by simp[blk,H])⟩
   have F:∀ y B,V G w y B→V G (w.setRow b q.toArray) y B:=fun y B h=>h.mono (fun _ h=>h) (fun O hF=>setRow_other w b O _ fun H=>al b rfl (H ▸ hF)) (fun _ _ h=>h);have a2:∀ (m:Nat) y,xs[m]?=some y→f[m]?=some y:=by
    intro m y p;rw[← ar,eb] at p;split at p
    ·simpa using p
    ·cases p
   obtain ⟨g1,g2,g3⟩:=EV (ob':=.arr u k (rows.set i (Jd r (over r.cells j d.cells)))) hw Y hk hρ af ⟨q.take (rows.length * k),⟨by rw[gg,eD]; omega,.inr ⟨b,A,q.toArray,by rw[gg],ab,setRow_heap w b f _ u (0,0) S,by rw[gg]; exact W,ac,by simpa [am] using ad,by rw[gg]⟩⟩,fun N r2 z=>by
    rw[gl] at z;split at z
    ·rename_i J;subst J;cases z;rw[aw];refine ⟨by rw[FR _ _ _ hle]; exact aq,fun c C l=>?_⟩;have T:c < k:=by
      have:=(dW.1 l).1;rw[FR _ _ _ hle] at this;omega
     rw[Od _ _ _ hle] at l;rw[eb,if_pos (by omega),R];split at l
     ·rename_i s;rw[if_pos (by omega)];have U:c - j < (a.eval x).cells.size:=by omega
      refine ⟨(a.eval x).cells[c - j],?_,F _ _ (a0.2 (c - j) _ _ (by simp[U]) l)⟩;rw[show i * k + c - (i * k + j)=c - j by omega];simp[U]
     ·rename_i s;rw[if_neg (by omega)];obtain ⟨y,p,M⟩:=(I i r hr).2 c C l;exact ⟨y,a2 _ _ p,F _ _ M⟩
    ·rename_i J;obtain ⟨q1,q2⟩:=I N r2 z;refine ⟨q1,fun c C l=>?_⟩;obtain ⟨y,p,M⟩:=q2 c C l;have T:c < k:=by
      have:=(dW.1 l).1;omega
     have ah:=(dW.1 z).1;have:=FT (k:=k) ah;refine ⟨y,?_,F _ _ M⟩;rw[eb,if_pos (by omega),R,if_neg ?_]
     ·exact a2 _ _ p
     ·rintro ⟨k1,k2⟩;exact J (Vj (k:=k) (i:=i) (j:=N * k + c - i * k) (i':=N) (j':=c) (by omega) T (by omega)).1⟩
   exact hK G _ _ g1 (.val _) g2 (g3.weaken fun _ _ h=>h.elim)
end
def AJ (P:Program) (t:TypeId):Option Nat:=(P.info? t).map (·.bytes)
def BO (k:Nat) (rows:List D):Prop:=∀ r∈rows,r.cells.length=k∧r.cells.all D.one=true
theorem V7 (k:Nat):BO k []:=fun _ h=>by cases h
theorem Us {k:Nat} {r:D} {rows:List D} (h1:r.cells.length=k∧r.cells.all D.one=true) (h2:BO k rows):BO k (r :: rows):=fun x hx=>by
 rcases eq.1 hx with h | h
 ·subst h; exact h1
 ·exact h2 x h
section
variable {w0:World} {G:Gh} {w:World} {κ:Kp} {P:Program}
theorem Oe {v:Value} {x:Bool} {rows:List D} {k:Nat} (h:V G w v (.sl x rows)) (hk:BO k rows) (hk0:0 < k) :
  (v=.slice none 0 0∧rows=[])∨∃ (ad:Addr) (c:Nat) (news:List Value),v=.slice (some ad) rows.length c∧news.length=rows.length * k∧(∀ (j:Nat) u,news[j]?=some u→w.cell? (ad.add j)=some u)∧(∀ u∈news,u.oneCell'=true)∧Flat G w k rows (news[·]?):=by
 cases h with
 | nilsl=>exact .inl ⟨rfl,rfl⟩
 | esl a=>exact .inr ⟨a,0,[],rfl,by simp,fun j u h=>by simp at h,fun u h=>by simp at h,fun i r h=>by simp at h⟩
 | sl X F I J K C A s =>
  rename_i b M n H t;subst F;refine .inr ⟨_,_,(List.range (rows.length * k)).map fun q=>X (q / k) (q % k),rfl,by simp,?_,?_,?_⟩;all_goals
   have B:∀ (i:Nat) r,rows[i]?=some r→t=k:=fun i r e=>by
    rw[← C i r e];exact (hk r (ew e)).1
   have p:∀ q,q < rows.length * k→∃ r d,rows[q / k]?=some r∧r.cells[q % k]?=some d∧t=k:=fun q o=>by
    have m:q / k < rows.length:=il (by rw[gf]; exact o);have e:rows[q / k]?=some rows[q / k]:=dO m;have E:=(hk _ (dP m)).1;exact ⟨_,_,e,dO (by rw[E]; exact Nat.mod_lt _ hk0),B _ _ e⟩
  ·intro j u f;by_cases l:j < rows.length * k
   ·rw[eK,gU l] at f;simp only[eH,Option.some.injEq] at f;subst f;obtain ⟨r,d,e,g,rfl⟩:=p j l;rw[Addr.add_lit,← A _ _ _ _ e g,gf,Nat.div_add_mod]
   ·rw[fh (by simpa using l)] at f;cases f
  ·intro u f;simp only[eh,fE] at f;obtain ⟨q,o,rfl⟩:=f;obtain ⟨r,d,e,g,_⟩:=p q o;refine (s _ _ _ _ e g).one ?_;have:=(hk r (ew e)).2;rw[eL] at this;exact this d (ew g)
  ·intro i r e;have m:=(dW.1 e).1;refine ⟨(hk r (ew e)).1,fun j d g=>?_⟩;have l:j < k:=by
    have:=(dW.1 g).1;rw[(hk r (ew e)).1] at this;exact this
   have L:=FT (k:=k) m;refine ⟨X i j,?_,s _ _ _ _ e g⟩;have y:(i * k + j) / k=i:=by rw[gf,Nat.mul_add_div hk0,Nat.div_eq_of_lt l]; rfl
   have z:(i * k + j) % k=j:=by rw[gf,Nat.mul_add_mod]; exact Nat.mod_eq_of_lt l
   simp only[eK,gU (show i * k + j < rows.length * k by omega),eH,y,z]
theorem V8 {base:Nat} {t ty el:TypeId} {i:TypeInfo} {z:Value} (ht:P.underlying t=some (.slice el)) (hi:P.info? el=some i) (hz:i.zero=some z)
  {v:Value} {n:Nat} {xs:List Value} (hown:w.ownsRow base el i.size v n xs) {ad:Addr} {m c:Nat} {news:List Value} (hl:news.length=m * i.size) (hnews:∀ (j:Nat) u,news[j]?=some u→w.cell? (ad.add j)=some u) (h1:∀ u∈news,u.oneCell'=true)
  (h63:n + m≤maxLen) (hbytes:(n + m) * i.bytes≤140737488355328) {v' : Value} {w' : World}
  (hr:(Builtin.append_ #[t,t] ty #[v,.slice (some ad) m c]).run P w=.ok v' w') (hv' : v'.ownBlock≠none):blk v'=blk v∨blk v'=some w.heap.size:=by
 have r:n + m≤9223372036854775807:=by simp only[maxLen] at h63; omega
 rcases hown.2 with ⟨rfl,rfl⟩ | ⟨g,a,b,rfl,o,k,q,p,f,s⟩
 ·by_cases l:m=0
  ·subst l;have:(Builtin.append_ #[t,t] ty #[.slice none 0 0,.slice (some ad) 0 c]).run P w=.ok (.slice none 0 0) w:=by
    simp[Builtin.append_,run_underlying ht,sizeOf,typeInfo,hi,Builtin.lenOf,Builtin.firstCells,loadCells,loadCellsFrom]
   rw[this] at hr;cases hr;exact absurd rfl hv'
  ·have:=run_append_nil (P:=P) w t ty el i z ht hi hz ad m c news hl hnews (by omega) (by omega) (by have e:=hbytes; simp only[eN] at e; omega);rw[this] at hr;cases hr;exact .inr rfl
 ·by_cases d:n + m≤a
  ·have h:n * i.size + news.length≤b.size:=by rw[hl,f,← fG]; exact fw _ d
   have:=run_append_room (P:=P) w t ty el i ht hi g n a b k ad m c news hl hnews h1 d h;rw[this] at hr;cases hr;exact .inl rfl
  ·have:=run_append_grow (P:=P) w t ty el i z ht hi hz ⟨g,0,none⟩ n a xs hown.1 (hown.cells (g:=g) rfl) ad m c news hl hnews (by omega) (by omega) (growslice_fits (by omega) hbytes);rw[this] at hr;cases hr;exact .inr rfl
theorem Flat.append {k:Nat} {rows rows2:List D} {xs news:List Value} (h:Flat G w k rows (xs[·]?)) (hx:xs.length=rows.length * k) (h2:Flat G w k rows2 (news[·]?)):Flat G w k (rows++rows2) ((xs++news)[·]?):=by
 intro i r b;by_cases l:i < rows.length
 ·rw[eF l] at b;obtain ⟨c,e⟩:=h i r b;refine ⟨c,fun j d f=>?_⟩;obtain ⟨x,a,g⟩:=e j d f;refine ⟨x,?_,g⟩;simp only at a ⊢;rw[eF ((dW.1 a).1)];exact a
 ·rw[eJ (by omega)] at b;obtain ⟨c,e⟩:=h2 _ r b;refine ⟨c,fun j d f=>?_⟩;obtain ⟨x,a,g⟩:=e j d f;refine ⟨x,?_,g⟩;simp only at a ⊢;have:i * k=rows.length * k + (i - rows.length) * k:=by rw[← fG]; congr 1; omega
  rw[eJ (by omega),show i * k + j - xs.length=(i - rows.length) * k + j by omega];exact a
theorem Flat.mono {k:Nat} {rows:List D} {xs:Nat→Option Value} {G' : Gh} {w' : World} (h:Flat G w k rows xs) (hV:∀ x d,V G w x d→V G' w' x d):Flat G' w' k rows xs :=
 fun i r hr=>⟨(h i r hr).1,fun j d hd=>let ⟨x,hx,hv⟩:=(h i r hr).2 j d hd; ⟨x,hx,hV _ _ hv⟩⟩
theorem HU {E:Ctx} {g:Nat} {o:Oper} {e:Operand→D} {t el:TypeId} {so x:Operand} (hop:o.op=.call { callee:=.builtin .append,args:=#[so,x],argTypes:=#[t,t] }) {d:Nat} (hd:o.dst=some d)
  {n:Nm} {len:Nat} (hs:e so=.own n len) {k:Nat} {rows rows2:List D} (hκ:κ n=some (.arr el k rows)) {xf:Bool} (hx:e x=.sl xf rows2)
  (he:AM E.P t=some el) (hk:szOf E.P el=some k) {bs:Nat} (hbs:AJ E.P el=some bs) {z:Value} (hz:AL E.P el=some z) (hzs:z.cells.size=k) (hk0:0 < k) (hok:BO k rows2)
  (h63:rows.length + rows2.length≤9223372036854775807) (hb:(rows.length + rows2.length) * bs≤140737488355328) :
  TOp E g o e κ (.own ⟨g,d,0⟩ (rows.length + rows2.length)) ((κ.del n).put ⟨g,d,0⟩ (.arr el k (rows++rows2))):=by
 intro L hA G w a R U ho hf K Q' hK;obtain ⟨hg,ak⟩:=hf d hd;have a1:=ak 0;have Q:=U so (by simp[hop,Op.operands,Call.operands]);have a4:=U x (by simp[hop,Op.operands,Call.operands]);rw[hs] at Q;rw[hx] at a4;obtain ⟨v,hρ,⟨M,m,ai⟩,aq⟩:=ho.ob n _ hκ;have aw:a.eval so=v∧∃ A c,v=.slice A len c:=by
  generalize a.eval so=u at Q;cases Q with
  | own a6=>rw[hρ] at a6; cases a6; exact ⟨rfl,_,_,rfl⟩
 obtain ⟨i,l⟩:∃ i,E.P.info? el=some i:=by
  unfold szOf at hk;cases l:E.P.info? el with
  | none=>rw[l] at hk; cases hk
  | some i=>exact ⟨i,rfl⟩
 have Y:i.size=k:=by simpa [szOf,l] using hk
 have X:i.bytes=bs:=by simpa [AJ,l] using hbs
 have Z:i.zero=some z:=by simpa [AL,l] using hz
 have O:=BT he;have af:L.heap.size≤w.heap.size:=R.below.size;have an:∀ f,w.grownBy f (blk v)→∀ y B,V G w y B→V (G.upd ⟨g,d,0⟩ y) f y B→True:=fun _ _ _ _ _ _=>trivial;clear an;have S:∀ j f s,(Builtin.append_ #[t,t] o.type #[v,a.eval x]).run E.P w=.ok j f→f.ownsRow L.heap.size el k j (rows.length + rows2.length) (M++s)→Gr w f (blk v)→(∃ A c,j=.slice A (rows.length + rows2.length) c) →
   Flat G w k rows2 (s[·]?)→(∀ b,blk j=some b→blk v=some b∨(w.heap.size≤b∧b < f.heap.size))→∀ r,o.wpIn (Fr r) 0 E.P a w K Q':=by
  intro j f s q p J aj N ae;have ac:∀ y B,V G w y B→V (G.upd ⟨g,d,0⟩ j) f y B:=fun y B h=>h.upd a1 fun b T=>J.block b (R.lt b T) fun e=>aq b e.symm T;obtain ⟨g1,g2,g3⟩:=YP (ob':=.arr el k (rows++rows2)) R ho hκ hρ a1 hg J ae ⟨M++s,by rw[dQ]; exact p,(Flat.append (G:=G) (w:=w) ai m.1 N).mono ac⟩;have ag:(execOp a.eval o).run E.P w=.ok (.value j) f:=by
   simp[execOp,hop,resolve,invoke,builtin,aw.1,q]
  refine FQ ag ?_;obtain ⟨A,c,rfl⟩:=aj;exact hK _ _ _ g1 (.own (by simp[Gh.upd])) g2 (g3.weaken fun _ _ hm=>by subst hm; exact ⟨rfl,hd⟩)
 rcases Oe a4 hok hk0 with ⟨ar,rfl⟩ | ⟨A,c,s,av,hl,W,a3,N⟩
 ·have q:=run_append_owned_none (P:=E.P) (w:=w) L.heap.size t o.type el i k O l v rows.length M m;refine S v w [] (by rw[ar]; exact q) (by simpa using m) (Gr.of ⟨rfl,rfl,rfl,ec _,fun _ _ _=>rfl⟩) ?_ (fun _ r hr=>by simp at hr) (fun b h=>.inl h);rcases m.2 with ⟨rfl,h0⟩ | ⟨I,F,H,rfl,_⟩
  ·exact ⟨none,0,by rw[h0]; rfl⟩
  ·exact ⟨_,_,rfl⟩
 ·obtain ⟨j,f,q,p,J,_⟩:=run_append_own (P:=E.P) w L.heap.size t o.type el i z k bs O l Z Y X hzs hk0 v rows.length M m A rows2.length c s hl W a3 (by simp only[maxLen]; omega) hb af;have am : Gr w f (blk v):=by
   refine ⟨?_,Cr _ _ _ _ q⟩;have:blk v=v.ownBlock:=by
    rcases m.2 with ⟨rfl,_⟩ | ⟨I,F,H,rfl,_⟩ <;> rfl
   rw[this]; exact J
  refine S j f s (by rw[av]; exact q) p am ?_ N (fun b C=>?_)
  ·rcases p.2 with ⟨rfl,h0⟩ | ⟨I,F,H,rfl,_⟩
   ·exact ⟨none,0,by rw[h0]⟩
   ·exact ⟨_,_,rfl⟩
  ·have ao:b < f.heap.size:=(p.lt b (by
    rcases p.2 with ⟨rfl,h0⟩ | ⟨I,F,H,rfl,_⟩
    ·cases C
    ·exact C)).2
   subst Y;rcases V8 (P:=E.P) O l Z m hl W a3 (by simp only[maxLen]; omega) (by rw[X]; exact hb) q (by
    rcases p.2 with ⟨rfl,h0⟩ | ⟨I,F,H,rfl,_⟩
    ·cases C
    ·simp[Value.ownBlock]) with h | h
   ·exact .inl (h ▸ C)
   ·rw[h] at C;cases C;exact .inr ⟨ec _,ao⟩
end
structure ACalls (E:Ctx) (f:FuncId) (args:List D) (σ:Sto) (g d:Nat) (r:D) (σ' : Sto):Prop where
 call:∀ as w,(callFunc f as).run E.P w=.ok (.enter f as) w
 run:∀ w0,E.A w0→∀ G w (vs:Array Value),WF w0 G w→Vs G w vs args→Objs w0 G w (get σ)→(g < G.top∧∀ j,G.ρ ⟨g,d,j⟩=none) →
  Calls E.P f vs w fun e w'=>∃ v G',e=.returned v∧WF w0 G' w'∧V G' w' v r∧Objs w0 G' w' (get σ')∧Step (rsv g (some d)) G w (get σ) G' w' (get σ')
def Co (d d' : D):Prop:=∀ G w v,V G w v d→V G w v d'
theorem Co.refl (d:D):Co d d:=fun _ _ _ h=>h
theorem Co.nil (x:Bool):Co (.val (.slice none 0 0)) (.sl x []):=fun _ _ _ h=>by rw[V.of_val h]; exact .nilsl x
theorem Co.any (d:D):Co d .any:=fun _ _ v _=>.any v
theorem Co.inexact (rows:List D) (x:Bool):Co (.sl x rows) (.sl false rows):=fun _ _ _ h=>by
 cases h with
 | nilsl=>exact .nilsl _
 | esl a=>exact .esl a _
 | sl X h1 h2 h3 h4 h5 h6 h7=>exact .sl X h1 (fun h=>by cases h) h3 h4 h5 h6 h7
inductive CoL:List D→List D→Prop
 | nil:CoL [] []
 | cons {d d' : D} {l l' : List D}:Co d d'→CoL l l'→CoL (d :: l) (d' :: l')
theorem CoL.refl:∀ l,CoL l l
 | []=>.nil
 | d :: l=>.cons (.refl d) (CoL.refl l)
theorem CoL.spec {l l' : List D} (h:CoL l l'):l.length=l'.length∧∀ (i:Nat) d',l'[i]?=some d'→∃ d,l[i]?=some d∧Co d d':=by
 induction h with
 | nil=>exact ⟨rfl,fun i d' h=>by simp at h⟩
 | cons h _ ih =>
  rename_i d d' l l' _;refine ⟨by simp[ih.1],fun i b a=>?_⟩;cases i with
  | zero=>simp at a; subst a; exact ⟨d,rfl,h⟩
  | succ i=>exact ih.2 i b (by simpa using a)
theorem Co.agg {cs cs' : List D} (h:CoL cs cs'):Co (.agg cs) (.agg cs'):=fun G w _ hv=>by
 cases hv with
 | agg hs hV =>
  obtain ⟨h1,h2⟩:=h.spec;exact .agg (hs.trans h1) fun i c d hc hd=>let ⟨d0,k1,k2⟩:=h2 i d hd; k2 G w c (hV i c d0 hc k1)
def dels (σ:Sto):List Nm→Sto
 | []=>σ
 | n :: r=>dels (del σ n) r
theorem KE (σ:Sto):∀ (l:List Nm) (m:Nm),get (dels σ l) m=if m∈l then none else get σ m
 | [],m=>by simp[dels]
 | n :: r,m=>by
  simp only[dels];rw[KE _ r m,GX];by_cases h1:m∈r
  ·rw[if_pos h1,if_pos (ea _ h1)]
  ·rw[if_neg h1];by_cases h2:n=m
   ·rw[if_pos h2,if_pos (by rw[h2]; exact dY)]
   ·rw[if_neg h2,if_neg (by simp only[eq,not_or]; exact ⟨fun e=>h2 e.symm,h1⟩)]
theorem ID {σ:Sto} {m:Nm}:get σ m=none↔m∉σ.map (·.1):=by
 induction σ with
 | nil=>simp[get]
 | cons p r ih =>
  obtain ⟨k,x⟩:=p;simp only[get,eM,eq,not_or];by_cases h:k=m
  ·subst h; simp
  ·rw[if_neg h,ih];exact ⟨fun a=>⟨fun e=>h e.symm,a⟩,fun a=>a.2⟩
def CO (o:Oper) (e:Operand→D):Option (FuncId × List D) :=
 match o.op with
 | .call c=>match c.callee with
  | .value fo=>match e fo with
   | .func (.func f) first captured=>some (f,first++c.args.toList.map e++captured)
   | _=>none
  | _=>none
 | _=>none
section
variable {E:Ctx} {g:Nat} {o:Oper} {e:Operand→D} {κ:Kp}
theorem Vs.append {G:Gh} {w:World} {a b:Array Value} {x y:List D} (h1:Vs G w a x) (h2:Vs G w b y):Vs G w (a++b) (x++y):=by
 refine ⟨by simp[h1.1,h2.1],fun i c d e f=>?_⟩;have h:=h1.1;by_cases g:i < x.length
 ·rw[eF g] at f;rw[gQ (by omega)] at e;exact h1.2 i c d e f
 ·rw[eJ (by omega)] at f;rw[Array.getElem?_append_right (by omega)] at e;rw[h] at e;exact h2.2 _ c d e f
theorem SN {f:FuncId} {args:List D} (hc:CO o e=some (f,args)) {G:Gh} {w:World} {ρ:Operand→Value} (hV:∀ x∈o.op.operands,V G w (ρ x) (e x)) (hcall:∀ as w,(callFunc f as).run E.P w=.ok (.enter f as) w) :
  ∃ vs,(execOp ρ o).run E.P w=.ok (.enter f vs) w∧Vs G w vs args:=by
 unfold CO at hc;split at hc
 ·rename_i c b;split at hc
  ·rename_i g a;have d:=hV g (by simp[b,Op.operands,Call.operands,a]);split at hc
   ·rename_i v first t r
    rw[r] at d;cases hc;generalize s:ρ g=u at d;cases d with
    | func m n p q =>
     rename_i l k;refine ⟨l++c.args.map ρ++k,?_,Vs.append (Vs.append ⟨m,p⟩ ⟨by simp,fun _ x _ i h=>?_⟩) ⟨n,q⟩⟩
     ·simp only[execOp,b,resolve,a,s,Deferred.ofValue,Sem.run_bind,Sem.run_pure,Result.andThen_ok,invoke];exact hcall _ _
     ·simp only[gz,ee] at i;obtain ⟨y,j,rfl⟩:=i;simp only[eK,fk,j,eH,Option.some.injEq] at h;subst h;refine hV y ?_;simp only[b,Op.operands,Call.operands,a];exact gi.2 (.inr (gB j))
   ·cases hc
  ·cases hc
 ·cases hc
theorem SO {f:FuncId} {args args' : List D} {σ σs σ' : Sto} {d:Nat} {r:D} (hc:CO o e=some (f,args)) (hco:CoL args args') (hd:o.dst=some d) (h:ACalls E f args' σs g d r σ') (hsub:∀ p∈σs,get σ p.1=some p.2) :
  TOp E g o e (get σ) r (get (σ'++dels σ (σs.map (·.1)))):=by
 intro T y G w a s A l H K U z;obtain ⟨t,L,q⟩:=SN hc A h.call;obtain ⟨B,C⟩:=hco.spec;have P : Vs G w t args':=⟨q.1.trans B,fun i c x R F=>let ⟨d0,k1,k2⟩:=C i x F; k2 G w c (q.2 i c d0 R k1)⟩
 have m : ∀ n o,get σs n=some o→get σ n=some o:=fun n o b=>hsub (n,o) (AQ b);have M:=h.run T y G w t s P (l.sub m) (H d hd);refine Sx L (Calls.mono M ?_);rintro V S ⟨v,u,rfl,Q,O,J,N⟩;obtain ⟨j,k⟩:=frame (κs:=get σs) (τ:=get (dels σ (σs.map (·.1)))) s l m (fun n _ b=>by
  rw[KE] at b;split at b
  ·cases b
  ·rename_i I;exact ⟨b,ID.2 I⟩) N J
 rw[← Bj] at j k;exact z u S v Q O j (k.weaken fun n _ b=>by rw[hd]; exact b)
theorem Og {f:FuncId} {args args' : List D} {σ σs nw:Sto} {d:Nat} {r:D} (hc:CO o e=some (f,args)) (hco:CoL args args') (hd:o.dst=some d) (h:ACalls E f args' σs g d r (nw++σs)) (hsub:∀ p∈σs,get σ p.1=some p.2) :
  QOp E g o e (get σ) r nw:=by
 intro v i G w a u k s m K c j;have t : ∀ n o,get σs n=some o→get σ n=some o:=fun n o q=>hsub (n,o) (AQ q);have l:get ((nw++σs)++dels σ (σs.map (·.1)))=Kp.or (get nw) (get σ):=by
  rw[Bj,Bj]
  funext n
  simp only[Kp.or];cases y:get nw n with
  | some x=>simp
  | none =>
   simp only[fM];cases b:get σs n with
   | some x=>rw[t n x b]; simp
   | none=>rw[KE,if_neg (ID.1 b)]; simp
 have:=SO hc hco hd h hsub v i G w a u k s m K c;rw[l] at this;exact this j
def Gi:Nat→List D→List (Nat × D)
 | _,[]=>[]
 | k,a :: r=>(k,a) :: Gi (k + 1) r
theorem KF:∀ (k:Nat) (l:List D) (t:Nat) (d:D),lk (Gi k l) t=some d→k≤t∧l[t - k]?=some d
 | _,[],_,_,h=>by simp[Gi,lk] at h
 | k,a :: r,t,d,h=>by
  simp only[Gi,lk] at h;split at h
  ·rename_i he;subst he;cases h;simp
  ·obtain ⟨h1,h2⟩:=KF (k + 1) r t d h;refine ⟨by omega,?_⟩;rw[show t - k=(t - (k + 1)) + 1 by omega,fK];exact h2
def Ends (E:Ctx) (fn:Func) (g d:Nat) (r:D) (σ' : Sto) (st:St):Prop :=
 ∀ w0,E.A w0→∀ G w a,Rel w0 G w a st→(g < G.top∧∀ j,G.ρ ⟨g,d,j⟩=none) →
  ∃ v G',(results fn a.tmps).run E.P w=.ok v w∧WF w0 G' w∧V G' w v r∧Objs w0 G' w (get σ')∧Step (rsv g (some d)) G w (get st.σ) G' w (get σ')
def retQ (E:Ctx) (fn:Func) (g d:Nat) (r:D) (σ' : Sto):Exit→St→Prop
 | .normal,st=>Ends E fn g d r σ' st
 | .ret,st=>Ends E fn g d r σ' st
 | _,_=>False
def Shut (w w' : World) (D:Nat):Prop:=w.heap[D]?=some (.deferred (some []))∧w'=w.putObj D (.deferred none)
theorem Shut.heap {w w' : World} {D b:Nat} (h:Shut w w' D) (hb:b≠D):w'.heap[b]?=w.heap[b]?:=by
 rw[h.2];unfold World.putObj;simp only;rw[eW,if_neg (Ne.symm hb)]
theorem Shut.cell {w w' : World} {D:Nat} (h:Shut w w' D) {a:Addr} {v:Value} (hv:w.cell? a=some v):w'.cell? a=some v:=by
 have:a.block≠D:=fun e=>by
  simp[World.cell?,e,h.1] at hv
 rw[World.cell?_of_block (h.heap this)];exact hv
theorem V.shut {G:Gh} {w w' : World} {D0:Nat} (h:Shut w w' D0) {v:Value} {d:D} (hv:V G w v d):V G w' v d:=by
 induction hv with
 | any v=>exact .any v
 | unk b=>exact .unk b
 | val v=>exact .val v
 | agg c _ ih=>exact .agg c ih
 | tup c _ ih=>exact .tup c ih
 | nilsl x=>exact .nilsl x
 | esl a x=>exact .esl a x
 | sl X c f g k l o _ ih=>exact .sl X c f g k l (fun i r j d p m=>h.cell (o i r j d p m)) ih
 | own c=>exact .own c
 | osl c f g k=>exact .osl c f g k
 | ptr c=>exact .ptr c
 | aptr c=>exact .aptr c
 | eptr X c f _ ih=>exact .eptr X c (fun j d m=>h.cell (f j d m)) ih
 | mref c=>exact .mref c
 | yld c=>exact .yld c
 | fmap t n c f h0 g k l _ ih=>exact .fmap t n c ((h.heap (fun e=>by rw[e,h.1] at f; cases f)).trans f) h0 g k l ih
 | fms c f=>exact .fms c ((h.heap (fun e=>by rw[e,h.1] at f; cases f)).trans f)
 | func c f _ _ q s=>exact .func c f q s
 | iface _ ih=>exact .iface ih
theorem SP {w0:World} {G:Gh} {w w' : World} {κ:Kp} {D0:Nat} (h:Shut w w' D0) (hb:w0.heap.size≤D0) (hF:G.F D0) (hw:WF w0 G w) (ho:Objs w0 G w κ):WF w0 G w'∧Objs w0 G w' κ:=by
 have d:w'.heap.size=w.heap.size:=by rw[h.2]; unfold World.putObj; simp
 refine ⟨⟨?_,hw.old,fun b c=>by rw[d]; exact hw.lt b c,fun n v a=>⟨(hw.nm n v a).1,fun b l=>by rw[d]; exact (hw.nm n v a).2 b l⟩⟩,⟨fun n o a=>?_,ho.ne⟩⟩
 ·refine ⟨⟨?_,?_,?_,by rw[d]; exact hw.below.size,fun k j=>(h.heap (by omega)).trans (hw.below.block k j)⟩,by rw[h.2]; exact hw.below.drawn⟩
  ·rw[h.2]; exact hw.below.os
  ·rw[h.2]; exact hw.below.tape
  ·rw[h.2]; exact hw.below.output
 ·obtain ⟨v,g,i,f⟩:=ho.ob n o a;exact ⟨v,g,i.mono (fun _ _ m=>m.shut h) (fun b c=>h.heap fun e=>f b c (e ▸ hF)),f⟩
theorem QX {R:Nm→Prop} {G1 G:Gh} {w1 w w' : World} {κ1 κ:Kp} {D0:Nat} (h:Shut w w' D0) (hs:Step R G1 w1 κ1 G w κ) (hb:w1.heap.size≤D0):Step R G1 w1 κ1 G w' κ:=by
 have d:w'.heap.size=w.heap.size:=by rw[h.2]; unfold World.putObj; simp
 exact { hs with
  size:=by rw[d]; exact hs.size
  heap:=fun b a c=>(h.heap (by omega)).trans (hs.heap b a c) }
theorem RX {f:FuncId} {fn:Func} {c:Code} {N d:Nat} {args:List D} {σ σ' : Sto} {r:D} (hcall:∀ as w,(callFunc f as).run E.P w=.ok (.enter f as) w) (hf:E.P.funcs[f]?=some fn) (hb:fn.body=some c) (hN:fn.ntmps=N) (hargs:args.length≤N)
  (h:AWp E N c (retQ E fn g d r σ') ⟨Gi 0 args,σ⟩):ACalls E f args σ g d r σ':=by
 refine ⟨hcall,fun p hA G w Z I O ho T=>?_⟩;refine callsIn_wide.1 (callsIn_of_wp_marks (F:=Fr none) (n:=0) hf hb (Fi _ _) ?_);have ah:WF p { G with base:=w.heap.size } w:=⟨I.below,I.old,I.lt,I.nm⟩
 have a1:∀ v d,V G w v d→V { G with base:=w.heap.size } w v d:=fun v d h=>h.mono (fun _ h=>h) (fun _ _=>rfl) (fun _ _ h=>h);have ag:Objs p { G with base:=w.heap.size } w (get σ):=⟨fun n o W=>let ⟨v,J,i,B⟩:=ho.ob n o W; ⟨v,J,i.mono a1 fun _ _=>rfl,B⟩,ho.ne⟩
 have a6:(Z++Array.replicate (fn.ntmps - Z.size) undef).size=N:=by
  have:=O.1;simp;omega
 refine wpIn_mono (h p hA { G with base:=w.heap.size } w _ a6 ⟨ah,fun t x M=>?_,ag,.nil (ec _)⟩ none (fun _=>rfl)) ?_
 ·obtain ⟨_,i⟩:=KF 0 args t x M;simp only[Nat.sub_zero] at i;have U:t < Z.size:=by
   have:=(dW.1 i).1;have:=O.1;omega
  refine ⟨by rw[a6]; have:=O.1; omega,?_⟩;rw[er,gQ U];simp only[U,getElem?_pos,eX];exact a1 _ _ (O.2 t _ x (by simp[U]) i)
 ·rintro en z a ⟨y,Y,J,i,B,R⟩;have key:Ends E fn g d r σ' Y→LeavesInM (Fr none) 0 E.P fn z.tmps (fun e m=>∃ v k,e=.returned v∧WF p k m∧V k m v r∧Objs p k m (get σ')∧Step (rsv g (some d)) G w (get σ) k m (get σ')) z.defers .returning a:=by
   intro he;obtain ⟨ad,q,ae,X,K⟩:=i.defers;have ab:=B.base;have ac:y.base=w.heap.size:=ab
   -- one mark after the other
   have go:∀ (q:List Nat) (a : World) (A:Act),A.tmps=z.tmps→q.Nodup→(∀ b∈q,y.F b∧y.base≤b∧a.heap[b]?=some (.deferred (some [])))→Rel p y a { A with defers:=[] } Y→Step no { G with base:=w.heap.size } w (get σ) y a (get Y.σ) →
     LeavesInM (Fr none) 0 E.P fn z.tmps (fun e m=>∃ v k,e=.returned v∧WF p k m∧V k m v r∧Objs p k m (get σ')∧Step (rsv g (some d)) G w (get σ) k m (get σ')) (q.map (fun b=>{ target:=.collected b,args:=#[] })) .returning a:=by
    intro q;induction q with
    | nil =>
     intro a A S _ _ s H;obtain ⟨v,k,k1,Q,k3,k4,k5⟩:=he p hA y a { A with defers:=[] } s ⟨eV T.1 H.top,fun j=>H.fresh T.1 (T.2 j) fun h=>h⟩;have l:=(H.weaken (R':=rsv g (some d)) fun _ _ h=>h.elim).trans k5;have aj : (results fn z.tmps).run E.P a=.ok v a:=by rw[← S]; exact k1
     refine ⟨v,aj,v,{ k with base:=G.base },rfl,⟨Q.below,Q.old,Q.lt,Q.nm⟩,k3.mono (fun _ h=>h) (fun _ _=>rfl) (fun _ _ h=>h),⟨fun n o W=>let ⟨u,J,i,B⟩:=k4.ob n o W; ⟨u,J,i.mono (fun _ _ h=>h.mono (fun _ h=>h) (fun _ _=>rfl) (fun _ _ h=>h)) fun _ _=>rfl,B⟩,k4.ne⟩,?_⟩;exact ⟨l.size,l.heap,l.F,l.F',l.ρ,l.ρ',l.top,l.blk',l.dom,rfl⟩
    | cons C q ih =>
     intro a A S X K s H;obtain ⟨m1,m2,m3⟩:=K C dY;obtain ⟨n1,n2⟩:=fA.1 X;have L:Shut a (a.putObj C (.deferred none)) C:=⟨m3,rfl⟩
     have a4:w.heap.size≤C:=ac ▸ m2;obtain ⟨q1,q2⟩:=SP L (ef I.below.size a4) m1 s.wf s.objs;refine ⟨by simp,.inl ⟨C,_,rfl,run_takeDeferred m3,?_⟩⟩;refine ih _ A S n2 (fun b a3=>?_) ⟨q1,fun t x M=>⟨(s.env t x M).1,(s.env t x M).2.shut L⟩,q2,.nil (by have:=s.defers.1; simpa [World.putObj] using this)⟩ (QX L H a4);obtain ⟨x1,x2,x3⟩:=K b (ea _ a3);exact ⟨x1,x2,(L.heap fun e=>n1 (e ▸ a3)).trans x3⟩
   rw[ae];exact go q a z rfl X K ⟨i.wf,i.env,i.objs,.nil ad⟩ B
  cases en with
  | normal=>exact key R
  | ret=>exact key R
  | _=>exact R.elim
theorem Ends.sees {fn:Func} {d:Nat} {r:D} {σ' : Sto} {st:St} (h:Sees E st (Ends E fn g d r σ')):Ends E fn g d r σ' st:=by
 intro f e G w a n c;obtain ⟨i,u,l,b,m⟩:=h f e G w a n;obtain ⟨v,k,o,p,q,s,t⟩:=m f e i w a l ⟨eV c.1 b.top,fun j=>b.fresh c.1 (c.2 j) fun h=>h⟩;exact ⟨v,k,o,p,q,s,(b.weaken fun _ _ h=>h.elim).trans t⟩
def resD (P:Program) (st:St):List ResultVar→Option (List D)
 | []=>some []
 | .tmp t :: r=>match lk st.env t,resD P st r with
  | some d,some ds=>some (d :: ds)
  | _,_=>none
 | .cell a t :: r=>match lk st.env a,resD P st r with
  | some p,some ds=>match HR P (get st.σ) t p with
   | some d=>some (d :: ds)
   | none=>none
  | _,_=>none
def resV (ds:List D):D :=
 match ds with
 | [d]=>d
 | ds=>.tup ds
def Pc (tmps:Array Value):ResultVar→Sem Value
 | .tmp t=>pure (tmps.getD t undef)
 | .cell p t=>do loadVar t (← asAddr (tmps.getD p undef))
theorem V9 (fn:Func) (tmps:Array Value):results fn tmps=(do
  let vs ← fn.results.mapM (Pc tmps)
  pure (if h:vs.size=1 then vs[0] else .tuple vs)):=by
 unfold results
 congr 1
theorem YQ {G:Gh} {w:World} {σ:Sto} {u y:Value} {pd d:D} {t:TypeId} (hp:V G w u pd) (hld:HR E.P (get σ) t pd=some d) (hy:(Instr.loadAt t u).run E.P w=.ok y w):(do loadVar t (← asAddr u):Sem Value).run E.P w=.ok y w:=by
 cases hp <;> simp[HR] at hld <;> simpa [Instr.loadAt,Instr.sureAddr,asAddr] using hy
theorem Qi {w0:World} {G:Gh} {w:World} {a:Act} {st:St} (hr:Rel w0 G w a st):∀ (l:List ResultVar) (ds:List D),resD E.P st l=some ds →
  ∃ vs:List Value,(l.mapM (Pc a.tmps)).run E.P w=.ok vs w∧Vs G w vs.toArray ds
 | [],ds,h=>by
  simp only[resD,Option.some.injEq] at h;subst h;exact ⟨[],rfl,rfl,fun i c d hc _=>by simp at hc⟩
 | .tmp t :: r,ds,h=>by
  simp only[resD] at h;split at h
  ·rename_i d ds' hl hds;cases h;obtain ⟨vs,h1,h2⟩:=Qi hr r ds' hds;refine ⟨a.tmps.getD t undef :: vs,?_,?_,fun i c d' hc hd=>?_⟩
   ·rw[List.mapM_cons,Sem.run_bind];simp only[Pc,Sem.run_pure,Result.andThen_ok,Sem.run_bind,h1]
   ·have:=h2.1;simpa using this
   ·cases i with
    | zero=>simp only[eA,ey,Option.some.injEq] at hc hd; subst hc; subst hd; exact (hr.env t d hl).2
    | succ i=>exact h2.2 i c d' (by simpa using hc) (by simpa using hd)
  ·cases h
 | .cell p t :: r,ds,h=>by
  simp only[resD] at h;split at h
  ·rename_i pd ds' hl hds;split at h
   ·rename_i d hld;cases h;obtain ⟨vs,h1,h2⟩:=Qi hr r ds' hds;have hp:=(hr.env p pd hl).2;obtain ⟨y,hy,hv⟩:=SA (P:=E.P) hr.objs hp hld;have hy' : (Pc a.tmps (.cell p t)).run E.P w=.ok y w:=YQ hp hld hy;refine ⟨y :: vs,?_,?_,fun i c d' hc hd=>?_⟩
    ·rw[List.mapM_cons,Sem.run_bind,hy'];simp only[Sem.run_pure,Result.andThen_ok,Sem.run_bind,h1]
    ·have:=h2.1;simpa using this
    ·cases i with
     | zero=>simp only[eA,ey,Option.some.injEq] at hc hd; subst hc; subst hd; exact hv
     | succ i=>exact h2.2 i c d' (by simpa using hc) (by simpa using hd)
   ·cases h
  ·cases h
theorem JD {w0:World} {G:Gh} {w:World} {a:Act} {st:St} (hr:Rel w0 G w a st) {fn:Func} {l:List ResultVar} (hl:fn.results=l.toArray) {ds:List D} (h:resD E.P st l=some ds) :
  ∃ v,(results fn a.tmps).run E.P w=.ok v w∧V G w v (resV ds):=by
 obtain ⟨b,f,c⟩:=Qi (E:=E) hr l ds h;have e:=c.1;simp only[gb] at e;refine ⟨if h:b.toArray.size=1 then b.toArray[0] else .tuple b.toArray,?_,?_⟩
 ·rw[V9,hl,Sem.run_bind,Array.mapM_eq_mapM_toList];simp only[Sem.run_map,f,Result.andThen_ok,Sem.run_pure]
 ·match b,ds,e with
  | [],[],_=>exact .tup rfl (fun _ _ d g _=>by simp at g)
  | [v],[d],_=>exact c.2 0 v d rfl rfl
  | v :: j :: b,d :: i :: ds,_ =>
   simp only[resV];rw[dif_neg (by simp)];exact .tup c.1 c.2
theorem Pd {fn:Func} {d:Nat} {r:D} {σ' : Sto} {st:St} {l:List ResultVar} (hl:fn.results=l.toArray) {ds:List D} (h:resD E.P st l=some ds) (hco:Co (resV ds) r) (hσ:∀ p∈σ',get st.σ p.1=some p.2):Ends E fn g d r σ' st:=by
 intro j _ G w a b _;obtain ⟨v,e,f⟩:=JD (E:=E) b hl h;have c:∀ n o,get σ' n=some o→get st.σ n=some o:=fun n o i=>hσ (n,o) (AQ i);exact ⟨v,G,e,b.wf,hco G w v f,b.objs.sub c,.drop c⟩
end
theorem LT {c:KC} {v:Value} (h:c.fits v=true) (n:Nat):Instr.sameBits n v v=true:=by
 rcases KC.fits_cases h with ⟨rfl,s,rfl⟩ | ⟨k,m,rfl,rfl⟩ | ⟨rfl,b,rfl⟩
 ·cases n <;> simp[Instr.sameBits,LN]
 ·cases n <;> simp[Instr.sameBits]
 ·cases n <;> simp[Instr.sameBits]
theorem Ls {n:Nat}:∀ {cs:List KC} {l:List Value},KC.fitsL cs l=true→((l.zip l).all fun p=>Instr.sameBits n p.1 p.2)=true
 | [],[],_=>rfl
 | [],_ :: _,h=>by simp[KC.fitsL] at h
 | _ :: _,[],h=>by simp[KC.fitsL] at h
 | c :: cs,v :: l,h=>by
  simp only[KC.fitsL,ej] at h;simp only[List.zip_cons_cons,List.all_cons,ej];exact ⟨LT h.1 n,Ls h.2⟩
theorem RY {ks:KS} {v:Value} (h:ks.fits v=true) (n:Nat):Instr.sameBits (n + 1) v v=true:=by
 cases ks with
 | one c=>exact LT h _
 | agg a =>
  cases v with
  | agg b =>
   have:=Ls (n:=n) (show KC.fitsL a b.toList=true by simpa [KS.fits] using h);simp only[Instr.sameBits,beq_self_eq_true,gk];exact this
  | _=>simp[KS.fits] at h
theorem SQ {P:Program} {w:World} {ks:KS} {v:Value} (h:ks.fits v=true):(Instr.keyThatStays v v).run P w=.ok v w:=by
 unfold Instr.keyThatStays;rw[if_pos (RY h 9999)]
 rfl
theorem Born.push {ms:Array MapEntry} {clock:Nat} (h:Born ms clock) {k v:Value}:Born (ms.push { key:=k,val:=v,born:=clock }) (clock + 1):=by
 obtain ⟨c,b⟩:=h;refine ⟨?_,fun m a=>?_⟩
 ·rw[Array.toList_push,eC,gc];refine ⟨c,by simp,fun _ d _ e=>?_⟩;obtain ⟨m,a,rfl⟩:=eh.1 d;have f:=b m a;simp only[eM,f9,eg] at e;omega
 ·rw[Array.toList_push] at a;rcases eu.1 a with a | a
  ·exact Nat.lt_succ_of_lt (b m a)
  ·rw[eg.1 a];exact gj _
theorem LU {ms:Array MapEntry} {i:Nat} {k v:Value}:(ms.modify i fun e=>{ e with key:=k,val:=v }).toList.map (·.born)=ms.toList.map (·.born):=by
 apply gx;intro j;simp only[eK,fk,gN];split
 ·cases ms[j]? <;> rfl
 ·rfl
theorem Born.set {ms:Array MapEntry} {clock i:Nat} (h:Born ms clock) {k v:Value}:Born (ms.modify i fun e=>{ e with key:=k,val:=v }) clock:=by
 refine ⟨by rw[LU]; exact h.1,fun m c=>?_⟩;have a:m.born∈(ms.modify i fun e=>{ e with key:=k,val:=v }).toList.map (·.born):=List.mem_map_of_mem c;rw[LU] at a;obtain ⟨f,d,b⟩:=eh.1 a;rw[← b];exact h.2 f d
section
variable {E:Ctx} {g:Nat} {o:Oper} {e:Operand→D} {κ:Kp}
theorem MV.mono {G:Gh} {w w' : World} {ks:KS} {ms:Array MapEntry} {es:List (Value × D)} (h:MV G w ks ms es) (hV:∀ x d,V G w x d→V G w' x d):MV G w' ks ms es :=
 ⟨h.1,h.2.1,h.2.2.1,fun i m e hm he=>hV _ _ (h.2.2.2 i m e hm he)⟩
theorem MV.push {G:Gh} {w:World} {ks:KS} {ms:Array MapEntry} {es:List (Value × D)} (h:MV G w ks ms es) {k v:Value} {d:D} {c:Nat} (hk:ks.fits k=true) (hv:V G w v d):MV G w ks (ms.push { key:=k,val:=v,born:=c }) (es++[(k,d)]):=by
 have at_:∀ (i:Nat) m e,(ms.push { key:=k,val:=v,born:=c })[i]?=some m→(es++[(k,d)])[i]?=some e→(ms[i]?=some m∧es[i]?=some e)∨(m={ key:=k,val:=v,born:=c }∧e=(k,d)):=fun i m e a b=>by
  rw[Array.getElem?_push] at a;split at a
  ·rename_i j;subst j;rw[h.1,eJ (ec _),gJ] at b;cases a; cases b;exact .inr ⟨rfl,rfl⟩
  ·rename_i j;have l:=(fa.1 a).1;rw[eF (by rw[← h.1]; exact l)] at b;exact .inl ⟨a,b⟩
 refine ⟨by simp[h.1],fun i m a=>?_,fun i m e a b=>?_,fun i m e a b=>?_⟩
 ·rw[Array.getElem?_push] at a;split at a
  ·cases a; exact hk
  ·exact h.2.1 i m a
 ·rcases at_ i m e a b with ⟨f,g⟩ | ⟨rfl,rfl⟩
  ·exact h.2.2.1 i m e f g
  ·rfl
 ·rcases at_ i m e a b with ⟨f,g⟩ | ⟨rfl,rfl⟩
  ·exact h.2.2.2 i m e f g
  ·exact hv
theorem MV.set {G:Gh} {w:World} {ks:KS} {ms:Array MapEntry} {es:List (Value × D)} (h:MV G w ks ms es) {k v:Value} {d:D} (i:Nat) (hk:ks.fits k=true) (hv:V G w v d):MV G w ks (ms.modify i fun e=>{ e with key:=k,val:=v }) (es.set i (k,d)):=by
 have at_:∀ (j:Nat) m,(ms.modify i fun e=>{ e with key:=k,val:=v })[j]?=some m→(i≠j∧ms[j]?=some m)∨(i=j∧m.key=k∧m.val=v):=fun j m c=>by
  rw[gN] at c;split at c
  ·rename_i f;obtain ⟨m0,_,rfl⟩:=ee.1 c;exact .inr ⟨f,rfl,rfl⟩
  ·rename_i f;exact .inl ⟨f,c⟩
 refine ⟨by simp[h.1],fun j m c=>?_,fun j m e c a=>?_,fun j m e c a=>?_⟩
 ·rcases at_ j m c with ⟨_,b⟩ | ⟨_,b,_⟩
  ·exact h.2.1 j m b
  ·rw[b]; exact hk
 ·rw[gl] at a;rcases at_ j m c with ⟨h0,b⟩ | ⟨h0,b,g⟩
  ·rw[if_neg h0] at a;exact h.2.2.1 j m e b a
  ·rw[if_pos h0] at a;split at a
   ·cases a; exact b
   ·cases a
 ·rw[gl] at a;rcases at_ j m c with ⟨h0,b⟩ | ⟨h0,b,g⟩
  ·rw[if_neg h0] at a;exact h.2.2.2 j m e b a
  ·rw[if_pos h0] at a;split at a
   ·cases a; rw[g]; exact hv
   ·cases a
theorem YR {t kt et:TypeId} {m k x:Operand} (hop:o.op=.mapUpdate t m k x∨o.op=.insert t m k x) (hmt:mapT E.P t=some (kt,et)) {ks:KS} (hks:KS.of E.P kt=some ks) {n:Nm} (hm:e m=.mref n) {es:List (Value × D)} (hκ:κ n=some (.map ks es))
  {kv:Value} (hkd:keyD (e k)=some kv) (hf:ks.fits kv=true):TOp E g o e κ (.val undef) (κ.put n (.map ks (mput es kv (e x)))):=by
 intro w0 hA G w a hw A L _ K S F;have C:=A m (by rcases hop with hop | hop <;> simp[hop,Op.operands]);have aa:=A k (by rcases hop with hop | hop <;> simp[hop,Op.operands]);have N:=A x (by rcases hop with hop | hop <;> simp[hop,Op.operands]);rw[hm] at C;have hk:=Jc aa hkd;obtain ⟨v,O,⟨r,R,y,rfl,p,H,f⟩,a6⟩:=L.ob n _ hκ;have f:MV G w ks R es:=f;generalize ab : a.eval m=vm at C;cases C with
 | mref Q =>
  rw[O] at Q;cases Q;have M:=LM hmt;have I:=Iy (P:=E.P) (w:=w) hks hf false;have J:=JC (P:=E.P) (w:=w) hks hf R.toList f.fits;have a9:=SQ (P:=E.P) (w:=w) hf;have step:∀ (o' : Obj) q s u,o'=.map q s→(Instr.mapUpdate t (.map (some r)) kv (a.eval x)).run E.P w=.ok () { w with heap:=w.heap.setIfInBounds r o' }→MV G w ks q u→Born q s →
    mput es kv (e x)=u→∀ r,o.wpIn (Fr r) 0 E.P a w K S:=fun o' q s u a7 a8 a5 a0 a1=>by
   obtain ⟨j,l⟩:=MapKept.heap_set (o':=o') p;have a2:(execOp a.eval o).run E.P w=.ok .skip { w with heap:=w.heap.setIfInBounds r o' }:=by
    rcases hop with hop | hop <;> simp only[execOp,hop,Sem.run_bind,ab,hk,a8,Result.andThen_ok,Sem.run_pure]
   refine Qd a2 ?_;have a3:Gr w { w with heap:=w.heap.setIfInBounds r o' } (blk (.map (some r))):=Gr.of ⟨rfl,rfl,rfl,by simp,fun b _ Z=>l b fun B=>Z (by simp[blk,B])⟩;obtain ⟨T,U,V⟩:=EV (ob':=.map ks u) hw L hκ O a3 ⟨r,q,s,rfl,by rw[← a7]; exact j,a0,a5.mono fun _ d hy=>hy.mono (fun _ h=>h) (fun b Y=>l b fun B=>a6 r rfl (B ▸ Y)) (fun _ _ h=>h)⟩;rw[a1] at F;exact F G _ _ T (.val _) U (V.weaken fun _ _ h=>h.elim)
  rcases f.find kv with ⟨j,l,z⟩ | ⟨i,m0,d,j,l,z,W,h5,h6,X⟩
  ·refine step _ _ (y + 1) _ rfl ?_ (f.push (c:=y) hf N) H.push (SG z);simp only[Instr.mapUpdate,Sem.run_bind,run_underlying M,Result.andThen_ok,MapKept.run_getObj_map p,I,J,j,MapKept.run_setObj_map _ p]
  ·refine step _ _ y _ rfl ?_ (f.set i hf N) H.set (Vg W X);simp only[Instr.mapUpdate,Sem.run_bind,run_underlying M,Result.andThen_ok,MapKept.run_getObj_map p,I,J,j,l,eH,eX,z,a9,MapKept.run_setObj_map _ p]
end
def Pe:List Nat→Bool
 | []=>true
 | a :: l=>!l.elem a && Pe l
theorem Ns:∀ l,Pe l=true→l.Nodup
 | [],_=>.nil
 | a :: l,h=>by
  simp only[Pe,ej,ib,List.elem_eq_contains] at h;exact fA.2 ⟨fun hm=>by simp[hm] at h,Ns l h.2⟩
def EJ (N:Nat) (l:List Oper):Bool:=Pe (l.filterMap (·.dst)) && (l.filterMap (·.dst)).all fun d=>decide (d < N)
theorem Cq {N:Nat} {l:List Oper} (h:EJ N l=true):(l.filterMap (·.dst)).Nodup∧∀ o∈l,∀ d,o.dst=some d→d < N:=by
 simp only[EJ,ej,eL,decide_eq_true_eq] at h;exact ⟨Ns _ h.1,fun o b d a=>h.2 d (fJ.2 ⟨o,b,a⟩)⟩
theorem bump {w0:World} {G:Gh} {w:World} {a:Act} {st:St} (hr:Rel w0 G w a st) :
  ∃ G1:Gh,G1.top=G.top + 1∧(∀ i j,G1.ρ ⟨G.top,i,j⟩=none)∧(∀ i j,get st.σ ⟨G.top,i,j⟩=none)∧Rel w0 G1 w a st∧Step no G w (get st.σ) G1 w (get st.σ):=by
 have e:∀ v d,V G w v d→V { G with top:=G.top + 1 } w v d:=fun v d h=>h.mono (fun _ h=>h) (fun _ _=>rfl) (fun _ _ h=>h);have f:∀ i j,G.ρ ⟨G.top,i,j⟩=none:=fun i j=>by
  cases h:G.ρ ⟨G.top,i,j⟩ with
  | none=>rfl
  | some v=>exact absurd (hr.wf.nm _ v h).1 (ik _)
 refine ⟨{ G with top:=G.top + 1 },rfl,f,fun i j=>?_,⟨⟨hr.wf.below,hr.wf.old,hr.wf.lt,fun n v b=>⟨Nat.lt_succ_of_lt (hr.wf.nm n v b).1,(hr.wf.nm n v b).2⟩⟩,fun t d g=>⟨(hr.env t d g).1,e _ _ (hr.env t d g).2⟩,⟨fun n o b=>?_,hr.objs.ne⟩,hr.defers⟩,?_⟩
 ·cases h:get st.σ ⟨G.top,i,j⟩ with
  | none=>rfl
  | some o =>
   obtain ⟨v,c,_⟩:=hr.objs.ob _ o h;rw[f i j] at c; cases c
 ·obtain ⟨v,c,l,k⟩:=hr.objs.ob n o b;exact ⟨v,c,l.mono e fun _ _=>rfl,k⟩
 ·exact ⟨ec _,fun _ _ _=>rfl,fun _ h=>h,fun _ h=>.inl h,fun _ _ h=>h,fun _ _ h _=>h,fu _,fun _ h=>.inr h,fun _ h=>.inl h,rfl⟩
section
variable {E:Ctx} {N:Nat} {st:St}
theorem Pf {Q:Exit→St→Prop} {id:Nat} {l:List Oper} (hd:EJ N l=true) (h:∀ g,(∀ i j,get st.σ ⟨g,i,j⟩=none)→AOps E N l g (fun s=>Q .normal s) l st):AWp E N (.region id l.toArray false) Q st:=by
 intro C n G w a p x r D;obtain ⟨c,F,q,A,y,z⟩:=bump x;obtain ⟨u,t⟩:=Cq hd;refine wpIn_region_lit (h G.top A C n c w a p y (by omega) u (fun o v d hd=>⟨t o v d hd,fun j=>q d j⟩) _ (fun b B _ _ e f k m=>⟨b,B,e,f,?_,m⟩) r);exact ((z.weaken fun _ _ h=>h.elim).trans k).weaken fun _ _ _=>by omega
def Cv (ds:List (Option Tmp)) (env:List (Nat × D)):Option (Nat × Bool)→Option Bool
 | none=>some true
 | some (j,b)=>match ds[j]? with
  | some (some t)=>match lk env t with
   | some (.val (.bool c))=>some (c == b)
   | some (.val (.tuple _))=>some false
   | _=>none
  | _=>some false
theorem Cl {ops:List Oper} {ds:List (Option Tmp)} (h:ops.map (·.dst)=ds) (env:List (Nat × D)) (o:Oper):Cv ds env o.guard=Dt ops env o:=by
 subst h;unfold Cv Dt;cases o.guard with
 | none=>rfl
 | some p =>
  obtain ⟨j,b⟩:=p;simp only[eK];cases ops[j]? with
  | none=>rfl
  | some x =>
   simp only[eH,fT];cases x.dst <;> rfl
def Hz (P:Program) (t:TypeId) (ad v:D) (σ:Sto):Option Sto :=
 match ad with
 | .ptr n off=>match get σ n with
  | some (.box u cs)=>if szOf P t=some v.cells.length∧off + v.cells.length≤cs.length∧v.cells.all D.one=true then some (set σ n (.box u (over cs off v.cells))) else none
  | _=>none
 | .aptr n k i j=>match get σ n with
  | some (.arr u k' rows)=>if k'=k then match rows[i]? with
    | some (.agg rc)=>if szOf P t=some v.cells.length∧j + v.cells.length≤rc.length∧v.cells.all D.one=true then some (set σ n (.arr u k (rows.set i (.agg (over rc j v.cells))))) else none
    | _=>none
   else none
  | _=>none
 | _=>none
theorem Gu {g:Nat} {o:Oper} {e:Operand→D} {σ σ' : Sto} {t:TypeId} {ao x:Operand} (hop:o.op=.store t ao x) (h:Hz E.P t (e ao) (e x) σ=some σ'):TOp E g o e (get σ) (.val undef) (get σ'):=by
 unfold Hz at h;split at h
 ·rename_i n p c;split at h
  ·rename_i u l b;split at h
   ·rename_i a;cases h;rw[KD _ _ _ (by rw[b]; simp)];exact Xm hop c b rfl a.1 a.2.1 a.2.2
   ·cases h
  ·cases h
 ·rename_i n k i j c;split at h
  ·rename_i u m r b;split at h
   ·rename_i d;subst d;split at h
    ·rename_i q f;split at h
     ·rename_i a;cases h;rw[KD _ _ _ (by rw[b]; simp)];exact RW hop c b f rfl a.1 a.2.1 a.2.2 rfl (.inr ⟨_,rfl⟩)
     ·cases h
    ·cases h
   ·cases h
  ·cases h
 ·cases h
noncomputable def Pg (P:Program) (t:TypeId) (m k x:D) (σ:Sto):Option Sto :=
 match m with
 | .mref n=>match get σ n with
  | some (.map ks es)=>match mapT P t,keyD k with
   | some (kt,_),some kv=>if KS.of P kt=some ks∧ks.fits kv=true then some (set σ n (.map ks (mput es kv x))) else none
   | _,_=>none
  | _=>none
 | _=>none
theorem Hn {g:Nat} {o:Oper} {e:Operand→D} {σ σ' : Sto} {t:TypeId} {m k x:Operand} (hop:o.op=.mapUpdate t m k x∨o.op=.insert t m k x) (h:Pg E.P t (e m) (e k) (e x) σ=some σ'):TOp E g o e (get σ) (.val undef) (get σ'):=by
 unfold Pg at h;split at h
 ·rename_i n d;split at h
  ·rename_i l i b;split at h
   ·rename_i p j q f c;split at h
    ·rename_i a;cases h;rw[KD _ _ _ (by rw[b]; simp)];exact YR hop f a.1 d b c a.2
    ·cases h
   ·cases h
  ·cases h
 ·cases h
noncomputable def MS (E:Ctx) (ds:List (Option Tmp)) (g:Nat) (o:Oper) (st:St):Option St :=
 match Cv ds st.env o.guard with
 | some true=>match o.op with
  | .store t a x=>(Hz E.P t (ev E st.env a) (ev E st.env x) st.σ).map (st.env' o.dst (.val undef))
  | .mapUpdate t m k x=>(Pg E.P t (ev E st.env m) (ev E st.env k) (ev E st.env x) st.σ).map (st.env' o.dst (.val undef))
  | .insert t m k x=>(Pg E.P t (ev E st.env m) (ev E st.env k) (ev E st.env x) st.σ).map (st.env' o.dst (.val undef))
  | _=>(dop E.P g o (ev E st.env) (get st.σ)).map fun p=>st.put o.dst p.1 p.2
 | some false=>some (st.put o.dst (.val undef) [])
 | none=>none
noncomputable def arun (E:Ctx) (ds:List (Option Tmp)) (g:Nat):Nat→List Oper→St→Option (List Oper × St)
 | 0,l,st=>some (l,st)
 | _ + 1,[],st=>some ([],st)
 | n + 1,o :: r,st=>match MS E ds g o st with
  | some st'=>arun E ds g n r st'
  | none=>none
variable {ops l l' : List Oper} {ds:List (Option Tmp)} {g:Nat} {Q:St→Prop} {st' : St}
theorem Xn {o:Oper} {r:List Oper} (hds:ops.map (·.dst)=ds) (h:MS E ds g o st=some st') (k:AOps E N ops g Q r st'):AOps E N ops g Q (o :: r) st:=by
 unfold MS at h;rw[Cl hds] at h;split at h
 ·rename_i b;split at h
  ·rename_i t a x c;simp only[ee] at h;obtain ⟨e,d,rfl⟩:=h;exact IB b (Gu c d) k
  ·rename_i t m q x c;simp only[ee] at h;obtain ⟨e,d,rfl⟩:=h;exact IB b (Hn (.inl c) d) k
  ·rename_i t m q x c;simp only[ee] at h;obtain ⟨e,d,rfl⟩:=h;exact IB b (Hn (.inr c) d) k
  ·simp only[ee] at h;obtain ⟨p,f,rfl⟩:=h;exact SK b (Hy f) k
 ·rename_i b;cases h;exact Xl b k
 ·cases h
theorem Oh (n:Nat) (hds:ops.map (·.dst)=ds):∀ {l:List Oper} {st:St},arun E ds g n l st=some (l',st')→AOps E N ops g Q l' st'→AOps E N ops g Q l st:=by
 induction n with
 | zero =>
  intro l st h k;simp only[arun,Option.some.injEq,Prod.mk.injEq] at h;obtain ⟨rfl,rfl⟩:=h;exact k
 | succ n ih =>
  intro l st h k;cases l with
  | nil =>
   simp only[arun,Option.some.injEq,Prod.mk.injEq] at h;obtain ⟨rfl,rfl⟩:=h;exact k
  | cons o r =>
   simp only[arun] at h;split at h
   ·rename_i s a;exact Xn hds a (ih h k)
   ·cases h
theorem Dx {o:Oper} {r:List Oper} {f:FuncId} {args args' : List D} {σs σ' : Sto} {d:Nat} {x:D} (hds:ops.map (·.dst)=ds) (hw:Cv ds st.env o.guard=some true) (hd:o.dst=some d) (hc:CO o (ev E st.env)=some (f,args)) (h:ACalls E f args' σs g d x σ') (hco:CoL args args')
  (hsub:∀ p∈σs,get st.σ p.1=some p.2) (k:AOps E N ops g Q r { env:=(d,x) :: st.env,σ:=σ'++dels st.σ (σs.map (·.1)) }):AOps E N ops g Q (o :: r) st:=by
 refine IB (by rw[← Cl hds]; exact hw) (SO hc hco hd h hsub) ?_;simp only[hd,St.env'];exact k
theorem AA {o:Oper} {r:List Oper} {f:FuncId} {args args' : List D} {nw:Sto} {d:Nat} {x:D} (hds:ops.map (·.dst)=ds) (hw:Cv ds st.env o.guard=some true) (hd:o.dst=some d) (hc:CO o (ev E st.env)=some (f,args)) (h:ACalls E f args' [] g d x nw) (hco:CoL args args')
  (k:AOps E N ops g Q r { env:=(d,x) :: st.env,σ:=nw++st.σ }):AOps E N ops g Q (o :: r) st :=
 Dx hds hw hd hc h hco (fun _ hp=>by cases hp) k
theorem Ut {o:Oper} {r:List Oper} {t el:TypeId} {so x:Operand} {d:Nat} (hds:ops.map (·.dst)=ds) (hw:Cv ds st.env o.guard=some true) (hop:o.op=.call { callee:=.builtin .append,args:=#[so,x],argTypes:=#[t,t] }) (hd:o.dst=some d)
  {n:Nm} {len:Nat} (hs:ev E st.env so=.own n len) {k:Nat} {rows rows2:List D} (hκ:get st.σ n=some (.arr el k rows)) {xf:Bool} (hx:ev E st.env x=.sl xf rows2)
  (he:AM E.P t=some el) (hk:szOf E.P el=some k) {bs:Nat} (hbs:AJ E.P el=some bs) {z:Value} (hz:AL E.P el=some z) (hzs:z.cells.size=k) (hk0:0 < k) (hok:BO k rows2)
  (h63:rows.length + rows2.length≤9223372036854775807) (hb:(rows.length + rows2.length) * bs≤140737488355328)
  (kk:AOps E N ops g Q r { env:=(d,.own ⟨g,d,0⟩ (rows.length + rows2.length)) :: st.env,σ:=(⟨g,d,0⟩,.arr el k (rows++rows2)) :: del st.σ n }):AOps E N ops g Q (o :: r) st:=by
 have:=HU (E:=E) (g:=g) (e:=ev E st.env) (κ:=get st.σ) hop hd hs hκ hx he hk hbs hz hzs hk0 hok h63 hb;have a:(Kp.del (get st.σ) n).put ⟨g,d,0⟩ (.arr el k (rows++rows2))=get ((⟨g,d,0⟩,.arr el k (rows++rows2)) :: del st.σ n):=by
  funext m
  simp only[Kp.put,Kp.del,get,GX]
 rw[a] at this;refine IB (by rw[← Cl hds]; exact hw) this ?_;simp only[hd,St.env'];exact kk
end
end Go.Ab
