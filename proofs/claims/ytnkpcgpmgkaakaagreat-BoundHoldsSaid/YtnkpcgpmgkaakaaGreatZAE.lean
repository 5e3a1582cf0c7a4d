/- A part of the proof: ZAE. -/
import Derived.Test.YtnkpcgpmgkaakaaGreatZAD
import Derived.KernelRfl
namespace Go.Ab
open Go Go.RowKit
def SR (acc:List Nat) (o:Oper):Nat :=
 o.after.toList.foldl (fun m e=>if Region.binds .any e then m ||| 2 ^ e.on ||| acc.getD e.on 0 else m) 0
def masks:List Oper→List Nat→List Nat
 | [],acc=>acc
 | o :: r,acc=>masks r (acc++[SR acc o])
theorem QY (acc:List Nat) (j:Nat):∀ (l:List Edge) (m:Nat),(l.foldl (fun m e=>if Region.binds .any e then m ||| 2 ^ e.on ||| acc.getD e.on 0 else m) m).testBit j=true →
  m.testBit j=true∨∃ e∈l,Region.binds .any e=true∧(e.on=j∨(acc.getD e.on 0).testBit j=true)
 | [],m,h=>.inl h
 | e :: l,m,h=>by
  simp only[fz] at h;rcases QY acc j l _ h with h1 | ⟨e',he,h2⟩
  ·split at h1
   ·rename_i hb;simp only[Nat.testBit_or,fW] at h1;rcases h1 with (h1 | h1) | h1
    ·exact .inl h1
    ·refine .inr ⟨e,dY,hb,.inl ?_⟩;rw[Nat.testBit_two_pow] at h1;simpa using h1
    ·exact .inr ⟨e,dY,hb,.inr h1⟩
   ·exact .inl h1
  ·exact .inr ⟨e',ea _ he,h2⟩
theorem QZ:∀ (l:List Oper) (acc:List Nat),(masks l acc).length=acc.length + l.length∧(∀ i:Nat,i < acc.length→(masks l acc)[i]?=acc[i]?) ∧
  ∀ (i:Nat) o,l[i]?=some o→(masks l acc)[acc.length + i]?=some (SR ((masks l acc).take (acc.length + i)) o)
 | [],acc=>⟨by simp[masks],fun _ _=>rfl,fun i o h=>by simp at h⟩
 | o :: r,acc=>by
  obtain ⟨h1,h2,h3⟩:=QZ r (acc++[SR acc o]);simp only[masks];refine ⟨by rw[h1]; simp; omega,fun i hi=>?_,fun i o' ho=>?_⟩
  ·rw[h2 i (by simp; omega),eF hi]
  ·cases i with
   | zero =>
    simp only[ey,Option.some.injEq] at ho;subst ho;rw[gD,h2 acc.length (by simp),eJ (by omega)];simp only[gJ,ey,Option.some.injEq]
    congr 1
    apply gx;intro j;rw[eb];split
    ·rename_i hj;rw[h2 j (by simp; omega),eF hj]
    ·rename_i hj;rw[fh (by omega)]
   | succ i =>
    have:=h3 i o' (by simpa using ho);simp only[dQ,gM] at this;rw[show acc.length + (i + 1)=acc.length + 1 + i by omega];exact this
def FD:Nat→List Oper→Bool
 | _,[]=>true
 | i,o :: r=>(o.after.toList.all fun e=>!Region.binds .any e || decide (e.on < i)) && FD (i + 1) r
theorem BU:∀ (k:Nat) (l:List Oper),FD k l=true→∀ (i:Nat) o,l[i]?=some o→∀ e∈o.after,Region.binds .any e=true→e.on < k + i
 | _,[],_,i,o,h,_,_,_=>by simp at h
 | k,x :: r,h,i,o,ho,e,he,hb=>by
  simp only[FD,ej,eL,fW,ib,decide_eq_true_eq] at h;cases i with
  | zero =>
   simp only[ey,Option.some.injEq] at ho;subst ho;rcases h.1 e (by simpa using he) with h1 | h1
   ·rw[hb] at h1; cases h1
   ·omega
  | succ i =>
   have:=BU (k + 1) r h.2 i o (by simpa using ho) e he hb;omega
def Down (l:List Oper) (L:Nat→Prop):Prop:=∀ (i:Nat) o,l[i]?=some o→L i→∀ e∈o.after,Region.binds .any e=true→L e.on
theorem anc {l:List Oper} (hE:FD 0 l=true) {L:Nat→Prop} (hL:Down l L):∀ (i:Nat) o,l[i]?=some o→(∀ e∈o.after,Region.binds .any e=true→L e.on)→∀ j m,(masks l [])[i]?=some m→m.testBit j=true→L j:=by
 intro i;induction i using Nat.strongRecOn with
 | _ i ih =>
  intro o d f j m g r;obtain ⟨p,_,q⟩:=QZ l [];have:=q i o d;simp only[eZ,eN] at this p;rw[this] at g;cases g;rcases QY _ j _ _ r with h | ⟨e,s,a,h⟩
  ·simp at h
  ·have b : e∈o.after:=by simpa using s
   have c:=BU 0 l hE i o d e b a;simp only[eN] at c;rcases h with rfl | h
   ·exact f e b a
   ·have t:=(dW.1 d).1;have n:l[e.on]?=some l[e.on]:=dO (by omega);have k:(masks l [])[e.on]?=some (masks l [])[e.on]:=dO (by omega);refine ih e.on c _ n (hL e.on _ n (f e b a)) j _ k ?_;rw[fl,eb,if_pos c,k] at h;exact h
def looks (l:List Oper) (o:Oper):List Nat :=
  (o.op.operands.toList.filterMap fun | .tmp t=>some t | _=>none) ++
  (match o.guard with
   | some (j,_)=>((l[j]?).bind (·.dst)).toList
   | none=>[])
def bit (M:List Nat) (i j:Nat):Bool:=(M.getD i 0).testBit j
def JR (M:List Nat) (l:List Oper) (i:Nat) (o:Oper):Bool :=
 (looks l o).all fun t=>(List.range l.length).all fun j =>
  !((l[j]?).bind (·.dst) == some t) || j == i || (if j < i then bit M i j else bit M j i)
def Fp (f:Nat→Oper→Bool):Nat→List Oper→Bool
 | _,[]=>true
 | i,o :: r=>f i o && Fp f (i + 1) r
theorem BX {f:Nat→Oper→Bool}:∀ {k:Nat} {l:List Oper},Fp f k l=true→∀ (i:Nat) o,l[i]?=some o→f (k + i) o=true
 | _,[],_,i,o,h=>by simp at h
 | k,x :: r,h,i,o,ho=>by
  simp only[Fp,ej] at h;cases i with
  | zero=>simp only[ey,Option.some.injEq] at ho; subst ho; exact h.1
  | succ i =>
   have:=BX h.2 i o (by simpa using ho);rw[show k + (i + 1)=k + 1 + i by omega];exact this
def Dg (N:Nat) (l:List Oper) (nq:Nat):Bool :=
 EJ N l && FD 0 l && Fp (JR (masks l []) l) 0 l && Fp (fun i _=>decide (i < nq) || (List.range i).all fun j=>bit (masks l []) i j) 0 l
def putE (env:List (Nat × D)) (dst:Option Tmp) (v:D):List (Nat × D) :=
 match dst with
 | some d=>(d,v) :: env
 | none=>env
def Sr (E:Ctx) (ops:List Oper) (g:Nat) (σ0:Sto) (o:Oper) (env:List (Nat × D)) (v:D) (nw:Sto):Prop :=
 (Dt ops env o=some true∧QOp E g o (ev E env) (get σ0) v nw∧∀ p∈nw,p.1.g=g∧o.dst=some p.1.i)∨(Dt ops env o=some false∧v=.val undef∧nw=[])
inductive QTrace (E:Ctx) (ops:List Oper) (g:Nat) (σ0:Sto):List Oper→List (Nat × D)→List (D × Sto)→List (Nat × D)→Prop
 | nil {env:List (Nat × D)}:QTrace E ops g σ0 [] env [] env
 | cons {o:Oper} {r:List Oper} {env env' : List (Nat × D)} {v:D} {nw:Sto} {tr:List (D × Sto)}:Sr E ops g σ0 o env v nw→QTrace E ops g σ0 r (putE env o.dst v) tr env'→QTrace E ops g σ0 (o :: r) env ((v,nw) :: tr) env'
def accN:List (D × Sto)→Sto→Sto
 | [],acc=>acc
 | (_,nw) :: r,acc=>accN r (nw++acc)
def QRun (E:Ctx) (ops:List Oper) (g:Nat) (σ0:Sto) (K:St→Prop) (l:List Oper) (st:St):Prop :=
 ∃ tr env',QTrace E ops g σ0 l st.env tr env'∧K ⟨env',accN tr st.σ⟩
section
variable {E:Ctx} {N:Nat} {ops:List Oper} {g:Nat} {σ0:Sto} {st:St}
theorem YS {K:St→Prop} (h:K st):QRun E ops g σ0 K [] st:=⟨[],st.env,.nil,h⟩
theorem LV {K:St→Prop} {o:Oper} {r:List Oper} {v:D} {nw:Sto} (hs:Sr E ops g σ0 o st.env v nw) (h:QRun E ops g σ0 K r { env:=putE st.env o.dst v,σ:=nw++st.σ }):QRun E ops g σ0 K (o :: r) st :=
 let ⟨tr,env',h1,h2⟩:=h
 ⟨(v,nw) :: tr,env',.cons hs h1,h2⟩
theorem QTrace.length {l:List Oper} {env env' : List (Nat × D)} {tr:List (D × Sto)} (h:QTrace E ops g σ0 l env tr env'):tr.length=l.length:=by
 induction h with
 | nil=>rfl
 | cons _ _ ih=>simp[ih]
theorem QTrace.split {l:List Oper} {env env' : List (Nat × D)} {tr:List (D × Sto)} (h:QTrace E ops g σ0 l env tr env'):∀ (i:Nat) o,l[i]?=some o→∃ envi v nw,QTrace E ops g σ0 (l.take i) env (tr.take i) envi∧tr[i]?=some (v,nw)∧Sr E ops g σ0 o envi v nw:=by
 induction h with
 | nil=>intro i o h; simp at h
 | cons b _ ih =>
  intro i o a;cases i with
  | zero=>simp only[ey,Option.some.injEq] at a; subst a; exact ⟨_,_,_,.nil,rfl,b⟩
  | succ i =>
   obtain ⟨envi,v,nw,c,d,e⟩:=ih i o (by simpa using a);exact ⟨envi,v,nw,.cons b c,d,e⟩
theorem QTrace.env {l:List Oper} {env env' : List (Nat × D)} {tr:List (D × Sto)} (h:QTrace E ops g σ0 l env tr env') (t:Nat) :
  (∃ (j:Nat) (o:Oper) (v:D) (nw:Sto),l[j]?=some o∧o.dst=some t∧tr[j]?=some (v,nw)∧lk env' t=some v)∨((∀ (j:Nat) o,l[j]?=some o→o.dst≠some t)∧lk env' t=lk env t):=by
 induction h with
 | nil=>exact .inr ⟨fun j o h=>by simp at h,rfl⟩
 | cons s _ ih =>
  rename_i o r env env' v nw tr _;rcases ih with ⟨j,i,q,p,c,a,k,m⟩ | ⟨c,a⟩
  ·exact .inl ⟨j + 1,i,q,p,by simpa using c,a,by simpa using k,m⟩
  ·by_cases b:o.dst=some t
   ·refine .inl ⟨0,o,v,nw,rfl,b,rfl,?_⟩;rw[a,b];simp[putE,lk]
   ·refine .inr ⟨fun j i f=>?_,?_⟩
    ·cases j with
     | zero=>simp only[ey,Option.some.injEq] at f; subst f; exact b
     | succ j=>exact c j i (by simpa using f)
    ·rw[a];cases n:o.dst with
     | none=>rfl
     | some d =>
      simp only[putE,lk];rw[if_neg (fun e=>b (by rw[n,e]))]
def kapp (L:Nat→Bool):Nat→List (D × Sto)→Kp→Kp
 | _,[],κ=>κ
 | k,(_,nw) :: r,κ=>kapp L (k + 1) r (if L k then Kp.or (get nw) κ else κ)
def Dis (a b:Kp):Prop:=∀ n,a n=none∨b n=none
theorem YT {a b κ:Kp} (h:Dis a b):Kp.or a (Kp.or b κ)=Kp.or b (Kp.or a κ):=by
 funext n
 unfold Kp.or;rcases h n with h | h <;> simp[h]
theorem Qj (L:Nat→Bool) (a:Kp):∀ (k:Nat) (tr:List (D × Sto)) (κ:Kp),(∀ p∈tr,Dis a (get p.2))→kapp L k tr (Kp.or a κ)=Kp.or a (kapp L k tr κ)
 | _,[],_,_=>rfl
 | k,(v,nw) :: r,κ,h=>by
  simp only[kapp];split
  ·rw[← YT (h (v,nw) dY),Qj L a (k + 1) r _ fun p hp=>h p (ea _ hp)]
  ·exact Qj L a (k + 1) r κ fun p hp=>h p (ea _ hp)
theorem Ph {L L' : Nat→Bool}:∀ (k:Nat) (tr:List (D × Sto)) (κ:Kp),(∀ j,k≤j→L j=L' j)→kapp L k tr κ=kapp L' k tr κ
 | _,[],_,_=>rfl
 | k,(_,_) :: r,κ,h=>by
  simp only[kapp,h k (ec _)];exact Ph (k + 1) r _ fun j _=>h j (by omega)
theorem KG {L L' : Nat→Bool} {i:Nat} (hi:L i=false) (hi' : L' i=true) (ho:∀ j,j≠i→L' j=L j):∀ (k:Nat) (tr:List (D × Sto)) (κ:Kp) (v:D) (nw:Sto),k≤i→tr[i - k]?=some (v,nw) →
  (∀ (j:Nat) p,tr[j]?=some p→k + j≠i→Dis (get nw) (get p.2))→kapp L' k tr κ=Kp.or (get nw) (kapp L k tr κ)
 | k,[],κ,v,nw,_,h,_=>by simp at h
 | k,(v0,nw0) :: r,κ,v,nw,hk,h,hd=>by
  simp only[kapp];by_cases he:k=i
  ·subst he;simp only[gJ,ey,Option.some.injEq,Prod.mk.injEq] at h;obtain ⟨rfl,rfl⟩:=h;rw[hi,hi'];simp only[if_true,fb,if_false];rw[Ph (L':=L) (k + 1) r _ fun j hj=>ho j (by omega)];refine Qj L _ (k + 1) r κ fun p hp=>?_;obtain ⟨j,hj⟩:=fg.1 hp;exact hd (j + 1) p (by simpa using hj) (by omega)
  ·rw[ho k he];rw[show i - k=(i - (k + 1)) + 1 by omega,fK] at h;have ih:=fun κ'=>KG hi hi' ho (k + 1) r κ' v nw (by omega) h (fun j p hj _=>hd (j + 1) p (by simpa using hj) (by omega));split
   ·rw[ih]
   ·rw[ih]
theorem GY {L:Nat→Bool} {n:Nm}:∀ (k:Nat) (tr:List (D × Sto)) (κ:Kp),(∀ p∈tr,get p.2 n=none)→kapp L k tr κ n=κ n
 | _,[],_,_=>rfl
 | k,(v,nw) :: r,κ,h=>by
  simp only[kapp];rw[GY (k + 1) r _ fun p hp=>h p (ea _ hp)];split
  ·unfold Kp.or;rw[h (v,nw) dY];simp
  ·rfl
theorem KH {L:Nat→Bool}:∀ (k:Nat) (tr:List (D × Sto)) (σ:Sto),(∀ j,k≤j→j < k + tr.length→L j=true)→kapp L k tr (get σ)=get (accN tr σ)
 | _,[],_,_=>rfl
 | k,(v,nw) :: r,σ,h=>by
  simp only[kapp,accN];rw[h k (ec _) (by simp),if_pos rfl,← Bj];exact KH (k + 1) r _ fun j _ _=>h j (by omega) (by simp; omega)
theorem Je {L:Nat→Bool}:∀ (k:Nat) (tr:List (D × Sto)) (κ:Kp),(∀ j,L j=false)→kapp L k tr κ=κ
 | _,[],_,_=>rfl
 | k,(v,nw) :: r,κ,h=>by
  simp only[kapp];rw[h k];exact Je (k + 1) r _ h
end
section
variable {E:Ctx} {N:Nat} {l:List Oper} {g:Nat} {st:St}
theorem Dn {env:List (Nat × D)} {G:Gh} {w:World} {tmps:Array Value} {o:Oper} {b:Bool} (h:Dt l env o=some b)
  (H:∀ t d,t∈looks l o→lk env t=some d→t < tmps.size∧V G w (tmps.getD t undef) d):Region.wanted o (yielded l.toArray tmps)=b:=by
 unfold Dt at h;unfold Region.wanted;split at h
 ·rename_i e; cases h; simp[e]
 ·rename_i j k e;simp only[e];unfold yielded;simp only[eA];split at h
  ·rename_i t f;have m:t∈looks l o:=by
    unfold looks;simp[e,f]
   simp only[f,fT];split at h
   ·rename_i c g;cases h;obtain ⟨a,i⟩:=H t _ m g;have:=V.of_val i;simp only[er,a,getElem?_pos,eX] at this;simp only[a,getElem?_pos,this];cases c <;> cases k <;> rfl
   ·rename_i n g;cases h;obtain ⟨a,i⟩:=H t _ m g;have:=V.of_val i;simp only[er,a,getElem?_pos,eX] at this;simp only[a,getElem?_pos,this];cases k <;> rfl
   ·cases h
  ·rename_i f;cases h;simp only[f,Option.bind_none];cases k <;> rfl
structure Inv (w0:World) (E:Ctx) (N:Nat) (l:List Oper) (g:Nat) (st:St) (tr:List (D × Sto)) (G1:Gh) (w1:World) (L:Nat→Bool) (G:Gh) (w:World) (a:Act):Prop where
 size:a.tmps.size=N
 defers:Marks G w a.defers
 wf:WF w0 G w
 old:∀ t d,lk st.env t=some d→(∀ (j:Nat) o,L j=true→l[j]?=some o→o.dst≠some t)→t < N∧V G w (a.tmps.getD t undef) d
 new:∀ (j:Nat) o t v nw,L j=true→l[j]?=some o→o.dst=some t→tr[j]?=some (v,nw)→V G w (a.tmps.getD t undef) v
 objs:Objs w0 G w (kapp L 0 tr (get st.σ))
 fresh:g < G.top∧∀ (j:Nat) o d,L j=false→l[j]?=some o→o.dst=some d→∀ q,G.ρ ⟨g,d,q⟩=none
 step:Step (fun n=>n.g=g) G1 w1 (get st.σ) G w (kapp L 0 tr (get st.σ))
 down:Down l (fun i=>L i=true)
theorem Cf {l:List Oper} (h:(l.filterMap (·.dst)).Nodup):∀ (i j:Nat) o o' d,l[i]?=some o→l[j]?=some o'→o.dst=some d→o'.dst=some d→i=j:=by
 induction l with
 | nil=>intro i j o o' d h; simp at h
 | cons x r ih =>
  intro i j o o' d c e a b;cases f:x.dst with
  | none =>
   have g : (r.filterMap (·.dst)).Nodup:=by simpa only[fR,f] using h
   cases i with
   | zero=>simp only[ey,Option.some.injEq] at c; subst c; rw[f] at a; cases a
   | succ i =>
    cases j with
    | zero=>simp only[ey,Option.some.injEq] at e; subst e; rw[f] at b; cases b
    | succ j=>rw[ih g i j o o' d (by simpa using c) (by simpa using e) a b]
  | some y =>
   simp only[fR,f,fA] at h;cases i with
   | zero =>
    simp only[ey,Option.some.injEq] at c;subst c;rw[f] at a;cases a;cases j with
    | zero=>rfl
    | succ j=>exact absurd (fJ.2 ⟨o',ew (by simpa using e),b⟩) h.1
   | succ i =>
    cases j with
    | zero =>
     simp only[ey,Option.some.injEq] at e;subst e;rw[f] at b;cases b;exact absurd (fJ.2 ⟨o,ew (by simpa using c),a⟩) h.1
    | succ j=>rw[ih h.2 i j o o' d (by simpa using c) (by simpa using e) a b]
theorem CC {M:List Nat} {i:Nat} {o:Oper} (h:JR M l i o=true) {t:Nat} (ht:t∈looks l o) {j:Nat} {o' : Oper} (hj:l[j]?=some o') (hd:o'.dst=some t) (hne:j≠i):if j < i then bit M i j=true else bit M j i=true:=by
 unfold JR at h;rw[eL] at h;have c:=h t ht;rw[eL] at c;have a:=c j (fE.2 (dW.1 hj).1);simp only[hj,fT,hd,beq_self_eq_true,fQ,fL,fW,beq_iff_eq] at a;rcases a with a | a
 ·exact absurd a hne
 ·split
  ·rename_i b; rw[if_pos b] at a; exact a
  ·rename_i b; rw[if_neg b] at a; exact a
theorem BJ {M:List Nat} {i j:Nat} (h:bit M i j=true):∃ m,M[i]?=some m∧m.testBit j=true:=by
 unfold bit at h;rw[fl] at h;cases a:M[i]? with
 | none=>rw[a] at h; simp at h
 | some m=>rw[a] at h; exact ⟨m,rfl,h⟩
theorem YU {w0:World} (hA:E.A w0) {nq:Nat} (hok:Dg N l nq=true) {tr:List (D × Sto)} {env' : List (Nat × D)} (htr:QTrace E l g st.σ (l.take nq) st.env tr env') (hσg:∀ i j,get st.σ ⟨g,i,j⟩=none)
  {G1:Gh} {w1:World} {L:Nat→Bool} {G:Gh} {w:World} {a:Act} (hI:Inv w0 E N l g st tr G1 w1 L G w a) {i:Nat} {o:Oper} (hi:l[i]?=some o) (hin:i < nq) (hL:L i=false) (hready:∀ e∈o.after,Region.binds .any e=true→L e.on=true)
  {L' : Nat→Bool} (hL' : L' i=true) (hLo:∀ j,j≠i→L' j=L j) {Q' : Exit→Act→World→Prop} {K:Act→World→Prop} (hK:∀ G' w' a',Inv w0 E N l g st tr G1 w1 L' G' w' a'→K a' w'):∀ r,wpOpIn (Fr r) 0 E.P l.toArray Q' i K a w:=by
 intro rd;simp only[Dg,ej] at hok;obtain ⟨⟨⟨hd,hE⟩,ax⟩,_⟩:=hok;obtain ⟨a4,aj⟩:=Cq hd;have a2:=BX ax i o hi;simp only[eN] at a2;have hq:(l.take nq)[i]?=some o:=by rw[eb,if_pos hin]; exact hi
 obtain ⟨ad,v,U,aB,a8,aA⟩:=htr.split i o hq
 -- a temporary that the operation looks at holds what it did in the order of the text
 have a7:∀ t d,t∈looks l o→lk ad t=some d→t < a.tmps.size∧V G w (a.tmps.getD t undef) d:=by
  intro t d Y J;rw[hI.size];rcases aB.env t with ⟨j,k,v',W,H,O,u,k4⟩ | ⟨H,O⟩
  ·rw[k4] at J;cases J;have s:j < i∧l[j]?=some k:=by
    rw[eb] at H;split at H
    ·rename_i Q;rw[eb] at H;split at H
     ·exact ⟨Q,H⟩
     ·cases H
    ·cases H
   have I:=CC a2 Y s.2 O (by omega);rw[if_pos s.1] at I;obtain ⟨m,hm,a0⟩:=BJ I;have b:=anc hE hI.down i o hi hready j m hm a0;have aD : tr[j]?=some (d,W):=by
    rw[eb] at u;split at u
    ·exact u
    ·cases u
   exact ⟨aj k (ew s.2) t O,hI.new j k t d W b s.2 O aD⟩
  ·rw[O] at J;refine hI.old t d J fun j k b c z=>?_;have s:¬ j < i:=fun h=>H j k (by rw[eb,if_pos h,eb,if_pos (by omega)]; exact c) z;have X:j≠i:=fun e=>by subst e; rw[hL] at b; cases b
   have I:=CC a2 Y c z X;rw[if_neg s] at I;obtain ⟨m,hm,a0⟩:=BJ I;have:=anc hE hI.down j k c (hI.down j k c b) i m hm a0;rw[hL] at this;cases this
 have au:∀ d,o.dst=some d→d < a.tmps.size:=fun d a1=>by rw[hI.size]; exact aj o (ew hi) d a1
 have aO:=htr.length;have aN:i < (l.take nq).length:=(dW.1 hq).1
 -- Z of different operations' new things are different
 have Z:∀ (j:Nat) p,tr[j]?=some p→∀ q∈p.2,q.1.g=g∧∃ k,l[j]?=some k∧k.dst=some q.1.i:=by
  intro j p B q T;have aw:j < (l.take nq).length:=by have:=(dW.1 B).1; omega
  have S:(l.take nq)[j]?=some (l.take nq)[j]:=dO aw;obtain ⟨_,v',W,_,O,u⟩:=htr.split j _ S;rw[B] at O;cases O;have ay : l[j]?=some (l.take nq)[j]:=by
   rw[eb] at S;split at S
   ·exact S
   ·cases S
  rcases u with ⟨_,_,u⟩ | ⟨_,_,u⟩
  ·exact ⟨(u q T).1,_,ay,(u q T).2⟩
  ·simp only at T;rw[u] at T;cases T
 have aq:∀ (j:Nat) p,tr[j]?=some p→0 + j≠i→Dis (get U) (get p.2):=by
  intro j p B X n;cases Q:get U n with
  | none=>exact .inl rfl
  | some x =>
   cases R:get p.2 n with
   | none=>exact .inr rfl
   | some y =>
    obtain ⟨_,o1,q1,q2⟩:=Z i _ a8 (n,x) (AQ Q);obtain ⟨_,o2,q3,q4⟩:=Z j _ B (n,y) (AQ R);exact absurd (Cf a4 i j o1 o2 _ q1 q3 q2 q4) (by omega)
 have al:=KG hL hL' hLo 0 tr (get st.σ) v U (dX _) (by simpa using a8) aq
 -- what follows once a value is there
 have ag:∀ G' w' x,WF w0 G' w'→V G' w' x v→Objs w0 G' w' (kapp L' 0 tr (get st.σ))→Step (rsv g o.dst) G w (kapp L 0 tr (get st.σ)) G' w' (kapp L' 0 tr (get st.σ))→K (a.put o.dst x) w':=by
  intro G' w' x ab hv ho M;have an:∀ t,o.dst≠some t→(a.put o.dst x).tmps.getD t undef=a.tmps.getD t undef:=by
   intro t Y;cases ar:o.dst with
   | none=>rfl
   | some d =>
    simp only[Act.put,er,eW];rw[if_neg (fun e=>Y (by rw[ar,e]))]
  refine hK G' w' _ ⟨by rw[EB,hI.size],by cases o.dst <;> exact hI.defers.step M hI.wf hI.objs,ab,fun t d J ak=>?_,fun j k t v' W b c z B=>?_,ho,⟨eV hI.fresh.1 M.top,fun j k d b c z q=>?_⟩,hI.step.trans (M.weaken fun n _ F=>F.1),fun j k c b e C I=>?_⟩
  ·have X:o.dst≠some t:=ak i o hL' hi;rw[an t X];obtain ⟨Q,R⟩:=hI.old t d J fun j k b c=>by
    by_cases s:j=i
    ·subst s; rw[hL] at b; cases b
    ·exact ak j k (by rw[hLo j s]; exact b) c
   exact ⟨Q,R.step M hI.wf hI.objs⟩
  ·by_cases s:j=i
   ·subst s;rw[hi] at c;cases c;rw[a8] at B;cases B;have:=au t z;simp only[z,Act.put,er,eW];simp only[↓reduceIte,this,eX];exact hv
   ·rw[hLo j s] at b;rw[an t fun e=>s (Cf a4 j i k o t c hi z e)];exact (hI.new j k t v' W b c z B).step M hI.wf hI.objs
  ·have s:j≠i:=fun e=>by subst e; rw[hL'] at b; cases b
   rw[hLo j s] at b;exact M.fresh hI.fresh.1 (hI.fresh.2 j k d b c z q) fun ⟨_,C⟩=>s (Cf a4 j i k o d c hi z C)
  ·have keep:L e.on=true→L' e.on=true:=fun h=>by
    by_cases h' : e.on=i
    ·rw[h']; exact hL'
    ·rw[hLo _ h']; exact h
   by_cases s:j=i
   ·subst s;rw[hi] at c;cases c;exact keep (hready e C I)
   ·simp only at b;rw[hLo j s] at b;exact keep (hI.down j k c b e C I)
 unfold wpOpIn;simp only[eA,hi];rcases aA with ⟨hw,az,_⟩ | ⟨hw,rfl,rfl⟩
 ·rw[if_pos (Dn hw a7)];have a6:∀ n x,get st.σ n=some x→kapp L 0 tr (get st.σ) n=some x:=by
   intro n x F;rw[GY 0 tr _ fun p B=>?_]
   ·exact F
   ·cases hg:get p.2 n with
    | none=>rfl
    | some y =>
     obtain ⟨j,c⟩:=fg.1 B;have:=(Z j p c (n,y) (AQ hg)).1;obtain ⟨ng,ni,nj⟩:=n;have aM : ng=g:=this;subst aM;rw[hσg] at F;cases F
  refine az w0 hA G w a hI.wf (fun x hx=>?_) (hI.objs.sub a6) (fun d a1=>⟨hI.fresh.1,fun j=>hI.fresh.2 i o d hL hi a1 j⟩) K Q' (fun G' w' x ab hv ho M=>?_) rd
  ·cases x with
   | tmp t =>
    simp only[Act.eval,Ab.ev];cases J:lk ad t with
    | none=>exact .any _
    | some d=>exact (a7 t d (by unfold looks; exact eI _ (fJ.2 ⟨.tmp t,by simpa using hx,rfl⟩)) J).2
   | const v=>exact V.ofV G w v
   | global g=>exact E.hglob w0 hA G w hI.wf g
   | func f=>exact .func rfl rfl (by simp) (by simp)
  ·obtain ⟨f1,f2⟩:=frame (κs:=get st.σ) (τ:=fun n=>if get st.σ n=none then kapp L 0 tr (get st.σ) n else none) hI.wf hI.objs a6 (fun n x F=>by
    split at F
    ·rename_i h0; exact ⟨F,h0⟩
    ·cases F) M ho
   have C:Kp.or (Kp.or (get U) (get st.σ)) (fun n=>if get st.σ n=none then kapp L 0 tr (get st.σ) n else none)=kapp L' 0 tr (get st.σ):=by
    rw[al]
    funext n
    simp only[Kp.or];cases Q:get U n with
    | some y=>simp
    | none =>
     simp only[fM];cases R:get st.σ n with
     | none=>simp
     | some y=>simp[a6 n y R]
   rw[C] at f1 f2;exact ag G' w' x ab hv f1 f2
 ·rw[Dn hw a7,if_neg (by simp)];refine ⟨fun f _=>Fi rd f,?_⟩;have C:kapp L' 0 tr (get st.σ)=kapp L 0 tr (get st.σ):=by
   rw[al]
   funext n
   simp[Kp.or,get]
  exact ag G w undef hI.wf (.val _) (by rw[C]; exact hI.objs) (by rw[C]; exact .refl _ _ _ _)
end
section
variable {E:Ctx} {N:Nat} {l:List Oper} {g:Nat} {st:St}
def left (A:Array Bool) (n:Nat):Nat:=(List.range n).countP fun i=>!A.getD i true
theorem Do (A:Array Bool) (n:Nat):left A (n + 1)=left A n + (if A.getD n true then 0 else 1):=by
 unfold left;rw[List.range_succ,List.countP_append]
 congr 1
 simp only[List.countP_cons,List.countP_nil,eN];cases A.getD n true <;> rfl
theorem Fq (A:Array Bool) {i:Nat} (hi:A.getD i true=false):∀ n,left (A.setIfInBounds i true) n + (if i < n then 1 else 0)=left A n
 | 0=>by simp[left]
 | n + 1=>by
  have ih:=Fq A hi n;rw[Do,Do];by_cases hn:n=i
  ·subst hn;have hlt:n < A.size:=by
    rcases ir n A.size with h | h
    ·exact h
    ·simp[eS h] at hi
   have:(A.setIfInBounds n true).getD n true=true:=by simp[hlt]
   rw[this,hi];simp at ih ⊢;omega
  ·rw[getD_set_ne true (Ne.symm hn)];by_cases h:i < n
   ·rw[if_pos h] at ih; rw[if_pos (show i < n + 1 by omega)]; omega
   ·rw[if_neg h] at ih; rw[if_neg (show ¬ i < n + 1 by omega)]; omega
theorem CZ {A:Array Bool} {n:Nat} (h:left A n=0):∀ i,i < n→A.getD i true=true:=by
 intro i a;unfold left at h;rw[List.countP_eq_zero] at h;have:=h i (fE.2 a);simpa using this
theorem F7 {A:Array Bool}:∀ {n:Nat},left A n≠0→∃ i,i < n∧A.getD i true=false∧∀ j,j < i→A.getD j true=true
 | 0,h=>by simp[left] at h
 | n + 1,h=>by
  by_cases h0:left A n=0
  ·rw[Do,h0] at h;refine ⟨n,by omega,?_,fun j hj=>CZ h0 j hj⟩;cases hA:A.getD n true
   ·rfl
   ·rw[hA] at h; simp at h
  ·obtain ⟨i,h1,h2,h3⟩:=F7 h0;exact ⟨i,by omega,h2,h3⟩
theorem HA (n m:Nat) (h:m≤n):left (Array.replicate n false) m=m:=by
 unfold left;have:(List.range m).countP (fun i=>!(Array.replicate n false).getD i true)=(List.range m).length:=by
  rw[List.countP_eq_length];intro i a;have:=fE.1 a;simp[show i < n by omega]
 rw[this,List.length_range]
theorem Fa {rd:Option Nat} {P:Program} {Q' : Exit→Act→World→Prop} {nq:Nat} (hE:FD 0 l=true) (htail:Fp (fun i _=>decide (i < nq) || (List.range i).all fun j=>bit (masks l []) i j) 0 l=true) :
  ∀ (fuel k:Nat) (A:Array Bool) (a:Act) (w:World),A.size=l.length→nq≤k→k + fuel=l.length→(∀ j,j < l.length→A.getD j true=decide (j < k))→wpListIn (Fr rd) 0 P l.toArray Q' (l.drop k) a w →
   wpAnyIn (Fr rd) 0 P .any l.toArray Q' fuel A a w:=by
 intro fuel;induction fuel with
 | zero =>
  intro k A a w _ _ I b h;rw[fp (by omega)] at h;refine ⟨?_,h⟩;cases L:Region.ready .any l.toArray A with
  | nil=>rfl
  | cons i r =>
   have p:i∈Region.ready .any l.toArray A:=by rw[L]; exact dY
   obtain ⟨c,o,d,_⟩:=mem_ready.1 p;simp only[eA] at d;have:=(dW.1 d).1;rw[b i this] at c;simp at c;omega
 | succ fuel ih =>
  intro k A a w M N I b h;have s:k < l.length:=by omega
  have z:l[k]?=some l[k]:=dO s;have y:k∈Region.ready .any l.toArray A:=by
   refine mem_ready.2 ⟨by rw[b k s]; simp,l[k],by simp,fun e n g=>?_⟩;have:=BU 0 l hE k _ z e n g;have u:=b e.on (by omega);rw[er] at u ⊢;simp only[show e.on < A.size by omega,getElem?_pos,eX] at u ⊢;rw[u];simp;omega
  have F:Down l fun j=>j < l.length∧A.getD j true=true:=by
   intro i o p D e n g;have v:=(dW.1 p).1;have:=BU 0 l hE i o p e n g;have c:=D.2;rw[b i v] at c;simp only[decide_eq_true_eq] at c;exact ⟨by omega,by rw[b e.on (by omega)]; simp; omega⟩
  refine ⟨fun h0=>(by rw[h0] at y; cases y),fun i p=>?_⟩;obtain ⟨c,o,d,C⟩:=mem_ready.1 p;simp only[eA] at d;have v:=(dW.1 d).1;rw[b i v] at c;simp only[decide_eq_false_iff_not] at c;have G:i=k:=by
   refine gs (fX fun J=>?_) (by omega);have B:=BX htail i o d;simp only[eN,fW,decide_eq_true_eq,eL] at B;have g:=(B.resolve_left (by omega)) k (fE.2 J);obtain ⟨m,K,E⟩:=BJ g;have:=anc hE F i o d (fun e n g=>by
    have t:=C e n g;have:=BU 0 l hE i o d e n g;refine ⟨by omega,?_⟩;rw[er] at t ⊢;simp only[show e.on < A.size by omega,getElem?_pos,eX] at t ⊢;exact t) k m K E
   have:=this.2;rw[b k s] at this;simp at this
  subst G;rw[ek s] at h;simp only[wpListIn] at h;unfold wpOpIn;simp only[eA,z];have next:∀ a w,wpListIn (Fr rd) 0 P l.toArray Q' (l.drop (i + 1)) a w→wpAnyIn (Fr rd) 0 P .any l.toArray Q' fuel (A.setIfInBounds i true) a w:=fun a w q=>by
   refine ih (i + 1) (A.setIfInBounds i true) a w (by simpa using M) (by omega) (by omega) (fun j H=>?_) q;by_cases x:i=j
   ·subst x;simp[show i < A.size by omega]
   ·rw[getD_set_ne true x,b j H]
    congr 1
    simp only[eq_iff_iff];omega
  split
  ·rename_i q;rw[if_pos q] at h;exact Oper.wpIn_mono next h
  ·rename_i q;rw[if_neg q] at h;exact ⟨fun f _=>Fi rd f,next _ _ h.2⟩
theorem Wa {rd:Option Nat} {w0:World} (hA:E.A w0) {nq:Nat} (hnq:nq≤l.length) (hok:Dg N l nq=true) {tr:List (D × Sto)} {env' : List (Nat × D)} (htr:QTrace E l g st.σ (l.take nq) st.env tr env') (hσg:∀ i j,get st.σ ⟨g,i,j⟩=none)
  {G1:Gh} {w1:World} {Q' : Exit→Act→World→Prop} (hend:∀ L G w a,(∀ j,j < nq→L j=true)→(∀ j,nq≤j→L j=false)→Inv w0 E N l g st tr G1 w1 L G w a→wpListIn (Fr rd) 0 E.P l.toArray Q' (l.drop nq) a w) :
  ∀ (fuel:Nat) (A:Array Bool) (G:Gh) (w:World) (a:Act),A.size=l.length→left A l.length=fuel→(∀ j,nq≤j→j < l.length→A.getD j true=false)→Inv w0 E N l g st tr G1 w1 (fun j=>A.getD j false) G w a →
   wpAnyIn (Fr rd) 0 E.P .any l.toArray Q' fuel A a w:=by
 have B:=hok;simp only[Dg,ej] at B;obtain ⟨⟨⟨_,s⟩,_⟩,v⟩:=B;have same:∀ (A:Array Bool) (j:Nat),A.size=l.length→j < l.length→A.getD j true=A.getD j false:=fun A j d f=>by
  simp[show j < A.size by omega]
 intro fuel;induction fuel with
 | zero =>
  intro A G w a c y k p;have n:=CZ y;have V:nq=l.length:=by
   refine gs hnq (fX fun z=>?_);have d:=n nq z;rw[k nq (ec _) z] at d;cases d
  refine Fa s v 0 l.length A a w c hnq (by omega) (fun j b=>by rw[n j b]; simp[b]) ?_;rw[← V];refine hend _ G w a (fun j b=>by rw[← same A j c (by omega)]; exact n j (by omega)) (fun j b=>?_) p;simp[eS (show A.size≤j by omega)]
 | succ fuel ih =>
  intro A G w a c y k p;by_cases t:left A nq=0
  ·have n:=CZ t;have a0:left A l.length=l.length - nq:=by
    have:∀ m,nq≤m→m≤l.length→left A m=m - nq:=by
     intro m;induction m with
     | zero=>intro d _; rw[im.1 d] at t; simp[left]
     | succ m Y =>
      intro d f;by_cases r:nq=m + 1
      ·rw[← r,t]; omega
      ·rw[Do,Y (by omega) (by omega),k m (by omega) (by omega)];simp;omega
    exact this _ hnq (ec _)
   refine Fa s v (fuel + 1) nq A a w c (ec _) (by omega) (fun j b=>?_) ?_
   ·by_cases h:j < nq
    ·rw[n j h]; simp[h]
    ·rw[k j (by omega) b]; simp[h]
   ·refine hend _ G w a (fun j b=>by rw[← same A j c (by omega)]; exact n j b) (fun j b=>?_) p;by_cases h:j < l.length
    ·rw[← same A j c h]; exact k j b h
    ·simp[eS (show A.size≤j by omega)]
  ·obtain ⟨q,a1,C,X⟩:=F7 t;have W:l[q]?=some l[q]:=dO (by omega);have F:q∈Region.ready .any l.toArray A:=by
    refine mem_ready.2 ⟨C,l[q],by simp,fun e O u=>?_⟩;have:=BU 0 l s q _ W e O u;rw[← same A e.on c (by omega)];exact X e.on (by omega)
   refine ⟨fun h0=>(by rw[h0] at F; cases F),fun i Q=>?_⟩;obtain ⟨d,o,f,r⟩:=mem_ready.1 Q;simp only[eA] at f;have x:=(dW.1 f).1;have R:i < nq:=by
    refine gH fun _=>?_;have H:=BX v i o f;simp only[eN,fW,decide_eq_true_eq,eL] at H;have u:=(H.resolve_left (by omega)) q (fE.2 (by omega));obtain ⟨m,U,M⟩:=BJ u;have:=anc s p.down i o f r q m U M;rw[← same A q c (by omega),C] at this;cases this
   refine YU hA hok htr hσg p f R (by rw[← same A i c x]; exact d) r (L':=fun j=>(A.setIfInBounds i true).getD j false) (by simp[show i < A.size by omega]) (fun j b=>getD_set_ne false (Ne.symm b)) (fun I Z J K=>?_) rd;refine ih (A.setIfInBounds i true) I Z J (by simpa using c) ?_ (fun j S T=>by rw[getD_set_ne true (by omega)]; exact k j S T) K;have:=Fq A d l.length;rw[if_pos x] at this;omega
theorem SS {Q:Exit→St→Prop} {id:Nat} (nq:Nat) (hnq:nq≤l.length) (hok:Dg N l nq=true)
  (h:∀ g,(∀ i j,get st.σ ⟨g,i,j⟩=none)→QRun E l g st.σ (AOps E N l g (fun s=>Q .normal s) (l.drop nq)) (l.take nq) st):AWp E N (.region id l.toArray true) Q st:=by
 intro C I G w a P hr rd ao;obtain ⟨p,ht,hf,hσ,f,k⟩:=bump hr;have Z:=hok;simp only[Dg,ej] at Z;obtain ⟨ab,X⟩:=Cq Z.1.1.1;obtain ⟨m,env',A,hK⟩:=h G.top hσ;refine wpIn_region_any E.mixed ?_
 -- the draw
 have R:∀ v d,V p w v d→V p { w with drawn:=w.drawn + 1 } v d:=fun v d h=>h.mono (fun _ h=>h) (fun _ _=>rfl) (fun _ _ h=>h);have a6:Inv C E N l G.top st m p { w with drawn:=w.drawn + 1 } (fun j=>(Array.replicate l.length false).getD j false) p { w with drawn:=w.drawn + 1 } a:=by
  have z:∀ j,(Array.replicate l.length false).getD j false=false:=fun j=>by
   by_cases b:j < l.length
   ·simp[b]
   ·simp[eS (show (Array.replicate l.length false).size≤j by simp; omega)]
  have U:kapp (fun j=>(Array.replicate l.length false).getD j false) 0 m (get st.σ)=get st.σ:=Je 0 m _ z;refine ⟨P,f.defers,⟨f.wf.below.draw,f.wf.old,f.wf.lt,f.wf.nm⟩,fun t d e _=>⟨by rw[← P]; exact (f.env t d e).1,R _ _ (f.env t d e).2⟩,fun j o t v nw x=>?_,?_,⟨by omega,fun j o d _ _ _ q=>hf d q⟩,?_,fun i o _ x=>?_⟩
  ·rw[z] at x; cases x
  ·rw[U];exact ⟨fun n o Y=>let ⟨v,u,r,h3⟩:=f.objs.ob n o Y; ⟨v,u,r.mono R fun _ _=>rfl,h3⟩,f.objs.ne⟩
  ·rw[U]; exact .refl _ _ _ _
  ·have J : (Array.replicate l.length false).getD i false=true:=x;rw[z] at J; cases J
 refine Wa I hnq hok A hσ (fun L D w' H K M c=>?_) l.toArray.size (Array.replicate l.toArray.size false) p _ a (by simp) (by simp only[gb]; exact HA _ _ (ec _)) (fun j u r=>by simp[r]) (by simpa using a6);have aa:=A.length;have W:kapp L 0 m (get st.σ)=get (accN m st.σ):=KH 0 m st.σ fun j _ b=>K j (by rw[aa,eD] at b; omega);have ae:Rel C D w' H ⟨env',accN m st.σ⟩:=by
  refine ⟨c.wf,fun t d e=>?_,by rw[← W]; exact c.objs,c.defers⟩;rw[c.size];have a5:∀ (j:Nat) o,(l.take nq)[j]?=some o→j < nq∧l[j]?=some o:=fun j o h=>by
   rw[eb] at h;split at h
   ·rename_i b; exact ⟨b,h⟩
   ·cases h
  rcases A.env t with ⟨j,o,v,nw,B,y,k3,k4⟩ | ⟨B,y⟩
  ·simp only at e;rw[k4] at e;cases e;obtain ⟨b,T⟩:=a5 j o B;exact ⟨X o (ew T) t y,c.new j o t d nw (K j b) T y k3⟩
  ·simp only at e;rw[y] at e;refine c.old t d e fun j o O b=>?_;by_cases a9:j < nq
   ·exact B j o (by rw[eb,if_pos a9]; exact b)
   ·rw[M j (by omega)] at O; cases O
 refine hK C I D w' H c.size ae c.fresh.1 ?_ (fun o ho d S=>?_) _ (fun G2 an _ _ q1 q2 q3 q4=>⟨G2,an,q1,q2,?_,q4⟩) rd
 ·exact ab.sublist ((gO nq l).filterMap _)
 ·obtain ⟨j,b⟩:=fg.1 ho;rw[eR] at b;exact ⟨X o (ew b) d S,c.fresh.2 (nq + j) o d (M _ (by omega)) b S⟩
 ·have af:Step (fun n=>n.g=G.top) G w (get st.σ) p { w with drawn:=w.drawn + 1 } (get st.σ) :=
   ⟨ec _,fun _ _ _=>rfl,k.F,k.F',k.ρ,fun n u r _=>k.ρ' n u r fun h=>h,k.top,k.blk',k.dom,k.base⟩
  have a0:=c.step;rw[W] at a0;exact ((af.trans a0).trans q3).weaken fun n Y _=>by omega
end
section
variable {E:Ctx} {N:Nat} {ops l l' : List Oper} {ds:List (Option Tmp)} {g:Nat} {σ0:Sto} {st st' : St} {K:St→Prop}
def nwOk (g:Nat) (dst:Option Tmp) (nw:Sto):Bool:=nw.all fun p=>p.1.g == g && decide (dst=some p.1.i)
theorem LW {dst:Option Tmp} {nw:Sto} (h:nwOk g dst nw=true):∀ p∈nw,p.1.g=g∧dst=some p.1.i:=by
 simp only[nwOk,eL,ej,beq_iff_eq,decide_eq_true_eq] at h;exact h
noncomputable def Jf (E:Ctx) (ds:List (Option Tmp)) (g:Nat) (σ0:Sto) (o:Oper) (st:St):Option St :=
 match Cv ds st.env o.guard with
 | some true=>(dop E.P g o (ev E st.env) (get σ0)).map fun p=>{ env:=putE st.env o.dst p.1,σ:=p.2++st.σ }
 | some false=>some { env:=putE st.env o.dst (.val undef),σ:=st.σ }
 | none=>none
noncomputable def qrun (E:Ctx) (ds:List (Option Tmp)) (g:Nat) (σ0:Sto):Nat→List Oper→St→Option (List Oper × St)
 | 0,l,st=>some (l,st)
 | _ + 1,[],st=>some ([],st)
 | n + 1,o :: r,st=>match Jf E ds g σ0 o st with
  | some st'=>qrun E ds g σ0 n r st'
  | none=>none
theorem LX {P:Program} {o:Oper} {e:Operand→D} {κ:Kp} {v:D} {nw:Sto} (h:dop P g o e κ=some (v,nw)):∀ p∈nw,p.1.g=g∧o.dst=some p.1.i:=by
 unfold dop at h;split at h
 ·split at h
  ·rename_i b _; cases h; intro p a; simp only[eg] at a; subst a; exact ⟨rfl,b⟩
  ·cases h
 ·split at h
  ·rename_i b;split at h
   ·cases h; intro p a; simp only[eg] at a; subst a; exact ⟨rfl,b⟩
   ·cases h
  ·cases h
 ·split at h
  ·cases h; intro p a; simp only[eg] at a; subst a; exact ⟨rfl,by assumption⟩
  ·cases h
 ·split at h
  ·split at h
   ·obtain ⟨k,_,c⟩:=ee.1 h;cases c; intro p a; simp only[eg] at a; subst a; exact ⟨rfl,by assumption⟩
   ·cases h
  ·simp only[ee,Prod.mk.injEq] at h;obtain ⟨_,_,_,h⟩:=h;subst h;intro p a; cases a
 ·simp only[ee,Prod.mk.injEq] at h;obtain ⟨_,_,_,h⟩:=h;subst h;intro p a; cases a
theorem Xo {o:Oper} {r:List Oper} (hds:ops.map (·.dst)=ds) (h:Jf E ds g σ0 o st=some st') (k:QRun E ops g σ0 K r st'):QRun E ops g σ0 K (o :: r) st:=by
 unfold Jf at h;rw[Cl hds] at h;split at h
 ·rename_i a;simp only[ee] at h;obtain ⟨⟨v,nw⟩,b,rfl⟩:=h;exact LV (.inl ⟨a,Hy b,LX b⟩) k
 ·rename_i a;cases h;exact LV (nw:=[]) (.inr ⟨a,rfl,rfl⟩) k
 ·cases h
theorem SU (n:Nat) (hds:ops.map (·.dst)=ds):∀ {l:List Oper} {st:St},qrun E ds g σ0 n l st=some (l',st')→QRun E ops g σ0 K l' st'→QRun E ops g σ0 K l st:=by
 induction n with
 | zero =>
  intro l st h k;simp only[qrun,Option.some.injEq,Prod.mk.injEq] at h;obtain ⟨rfl,rfl⟩:=h;exact k
 | succ n ih =>
  intro l st h k;cases l with
  | nil =>
   simp only[qrun,Option.some.injEq,Prod.mk.injEq] at h;obtain ⟨rfl,rfl⟩:=h;exact k
  | cons o r =>
   simp only[qrun] at h;split at h
   ·rename_i s a;exact Xo hds a (ih h k)
   ·cases h
theorem Ek {o:Oper} {r:List Oper} {f:FuncId} {args args' : List D} {σs nw:Sto} {d:Nat} {x:D} (hds:ops.map (·.dst)=ds) (hw:Cv ds st.env o.guard=some true) (hd:o.dst=some d) (hc:CO o (ev E st.env)=some (f,args)) (h:ACalls E f args' σs g d x (nw++σs)) (hco:CoL args args')
  (hsub:∀ p∈σs,get σ0 p.1=some p.2) (hnw:nwOk g (some d) nw=true) (k:QRun E ops g σ0 K r { env:=(d,x) :: st.env,σ:=nw++st.σ }):QRun E ops g σ0 K (o :: r) st:=by
 refine LV (v:=x) (nw:=nw) (.inl ⟨by rw[← Cl hds]; exact hw,Ab.Og hc hco hd h hsub,by rw[hd]; exact LW hnw⟩) ?_;rw[hd];exact k
theorem AI {o:Oper} {r:List Oper} {f:FuncId} {args args' : List D} {nw:Sto} {d:Nat} {x:D} (hds:ops.map (·.dst)=ds) (hw:Cv ds st.env o.guard=some true) (hd:o.dst=some d) (hc:CO o (ev E st.env)=some (f,args)) (h:ACalls E f args' [] g d x nw) (hco:CoL args args')
  (hnw:nwOk g (some d) nw=true) (k:QRun E ops g σ0 K r { env:=(d,x) :: st.env,σ:=nw++st.σ }):QRun E ops g σ0 K (o :: r) st :=
 Ek (σs:=[]) hds hw hd hc (by simpa using h) hco (fun _ hp=>by cases hp) hnw k
end
def D.sub (f:D→D):D→D
 | .agg cs=>.agg (cs.map f)
 | .tup cs=>.tup (cs.map f)
 | .func fn a c=>.func fn (a.map f) (c.map f)
 | d=>f d
theorem V.sub {G G' : Gh} {w w' : World} {f:D→D} (hf:∀ v d,V G w v d→V G' w' v (f d)) {v:Value} {d:D} (h:V G w v d):V G' w' v (d.sub f):=by
 have l:∀ {m:Array Value} {n:List D},(∀ (i:Nat) c d,m[i]?=some c→n[i]?=some d→V G w c d)→∀ (i:Nat) c d,m[i]?=some c→(n.map f)[i]?=some d→V G' w' c d:=by
  intro m n h i c d t q;simp only[eK,ee] at q;obtain ⟨d0,h0,rfl⟩:=q;exact hf _ _ (h i c d0 t h0)
 cases h with
 | agg e g=>exact .agg (by simpa using e) (l g)
 | tup e g=>exact .tup (by simpa using e) (l g)
 | func e g j k=>exact .func (by simpa using e) (by simpa using g) (l j) (l k)
 | any v=>exact hf _ _ (.any v)
 | unk b=>exact hf _ _ (.unk b)
 | val v=>exact hf _ _ (.val v)
 | nilsl x=>exact hf _ _ (.nilsl x)
 | esl a x=>exact hf _ _ (.esl a x)
 | sl X e g j k o p s=>exact hf _ _ (.sl X e g j k o p s)
 | own h=>exact hf _ _ (.own h)
 | osl e g j k=>exact hf _ _ (.osl e g j k)
 | fms e g=>exact hf _ _ (.fms e g)
 | ptr h=>exact hf _ _ (.ptr h)
 | aptr h=>exact hf _ _ (.aptr h)
 | eptr X e g j=>exact hf _ _ (.eptr X e g j)
 | mref h=>exact hf _ _ (.mref h)
 | yld h=>exact hf _ _ (.yld h)
 | fmap u r e g h0 j k o p=>exact hf _ _ (.fmap u r e g h0 j k o p)
 | iface h=>exact hf _ _ (.iface h)
def Ob.sub (f:D→D):Ob→Ob
 | .box t cs=>.box t (cs.map f)
 | .map ks es=>.map ks (es.map fun e=>(e.1,e.2.sub f))
 | o=>o
def DO (f:D→D):List (Nat × D)→List (Nat × D)
 | []=>[]
 | (t,d) :: r=>(t,d.sub f) :: DO f r
def Dq (f:D→D):Sto→Sto
 | []=>[]
 | (n,o) :: r=>(n,o.sub f) :: Dq f r
theorem Q0 (f:D→D):∀ (l:List (Nat × D)) (t:Nat),lk (DO f l) t=(lk l t).map (D.sub f)
 | [],_=>rfl
 | (k,d) :: r,t=>by
  simp only[DO,lk];split
  ·rfl
  ·exact Q0 f r t
theorem Pi (f:D→D):∀ (σ:Sto) (n:Nm),get (Dq f σ) n=(get σ n).map (Ob.sub f)
 | [],_=>rfl
 | (m,o) :: r,n=>by
  simp only[Dq,get];split
  ·rfl
  ·exact Pi f r n
section
variable {E:Ctx} {st:St}
theorem KI {K:St→Prop} {n:Nm} {ob:Ob} (hn:get st.σ n=some ob) (f:D→D)
  (hf:∀ w0 G w v,WF w0 G w→G.ρ n=some v→OV w0 G w v ob→∀ G',(∀ b,G.F b→G'.F b)→(∀ b,blk v=some b→G'.F b)→G'.ρ=G.ρ→∀ x d,V G w x d→V G' w x (f d))
  (h:K { env:=DO f st.env,σ:=Dq f (del st.σ n) }):Sees E st K:=by
 intro w0 _ G w a g;obtain ⟨v,Q,S,aa⟩:=g.objs.ob n ob hn
 let G' : Gh:={ G with F:=fun b=>G.F b∨blk v=some b }
 have M:=hf w0 G w v g.wf Q S G' (fun b h=>.inl h) (fun b h=>.inr h) rfl;have N:∀ x d,V G w x d→V G' w x d:=fun x d h=>h.mono (fun b h=>.inl h) (fun _ _=>rfl) (fun _ _ h=>h);have a0:=S.lt;have C:∀ m o,get (Dq f (del st.σ n)) m=some o→n≠m∧∃ l,get st.σ m=some l∧o=l.sub f:=by
  intro m o j;rw[Pi,GX] at j;split at j
  ·simp at j
  ·rename_i H;simp only[ee] at j;obtain ⟨l,h0,rfl⟩:=j;exact ⟨H,l,h0,rfl⟩
 have Y:∀ m o b,get st.σ m=some o→n≠m→∀ u,G.ρ m=some u→blk u=some b→blk v≠some b:=fun m o b j H u J p=>fun a2=>g.objs.ne n m ob o v u b hn j H Q J a2 p;refine ⟨G',_,⟨⟨g.wf.below,fun b p=>.inl (g.wf.old b p),fun b p=>?_,g.wf.nm⟩,fun t d P=>?_,⟨fun m o j=>?_,fun m T o o' u u' b s y=>?_⟩,g.defers.mono (ec _) (fun _ h=>.inl h) rfl fun _ _=>rfl⟩,⟨ec _,fun _ _ _=>rfl,fun b h=>.inl h,fun b p=>?_,fun _ _ h=>h,fun _ _ h _=>h,ec _,fun b ⟨m,o,u,s,y,z⟩=>?_,fun m j=>?_,rfl⟩,h⟩
 ·rcases p with h | h
  ·exact g.wf.lt b h
  ·exact a0 b h
 ·rw[Q0] at P;simp only[ee] at P;obtain ⟨d0,h0,rfl⟩:=P;exact ⟨(g.env t d0 h0).1,(g.env t d0 h0).2.sub M⟩
 ·obtain ⟨H,l,h0,rfl⟩:=C m o j;obtain ⟨u,J,I,a1⟩:=g.objs.ob m l h0;refine ⟨u,J,?_,fun b p A=>?_⟩
  ·cases l with
   | box t cs =>
    obtain ⟨b,c,rfl,s,y,z⟩:=I;refine ⟨b,c,rfl,s,by simpa using y,fun i x d q R=>?_⟩;simp only[eK,ee] at R;obtain ⟨d0,Z,rfl⟩:=R;exact M _ _ (z i x d0 q Z)
   | arr t k ac=>exact I.mono N fun _ _=>rfl
   | loop rc env=>exact I.mono N fun _ _=>rfl
   | iter ks W pre=>exact I.mono N fun _ _=>rfl
   | map ks W =>
    obtain ⟨r,ms,U,rfl,s,h0,y,z,L,X⟩:=I;refine ⟨r,ms,U,rfl,s,h0,by simpa using y,z,fun i x e q B=>?_,fun i x e q B=>?_⟩
    ·rw[eK] at B;obtain ⟨e0,O,rfl⟩:=ee.1 B;exact L i x e0 q O
    ·rw[eK] at B;obtain ⟨e0,O,rfl⟩:=ee.1 B;exact (X i x e0 q O).sub M
  ·rcases A with A | A
   ·exact a1 b p A
   ·exact Y m l b h0 H u J p A
 ·obtain ⟨_,o1,z,_⟩:=C m o s;obtain ⟨_,o2,L,_⟩:=C T o' y;exact g.objs.ne m T o1 o2 u u' b z L
 ·rcases p with h | h
  ·exact .inl h
  ·exact .inr (.inr ⟨n,ob,v,hn,Q,h⟩)
 ·cases q:get (Dq f (del st.σ n)) m with
  | none=>exact absurd q j
  | some o =>
   obtain ⟨_,l,h0,_⟩:=C m o q;exact .inl (by rw[h0]; simp)
 ·obtain ⟨_,l,h0,_⟩:=C m o s;exact .inr ⟨m,l,u,h0,y,z⟩
open Classical in
noncomputable def frzD (n:Nm) (rows:List D):D→D
 | .own m l=>if m=n then .sl false rows else .own m l
 | .osl m k off len=>if m=n∧off + len≤rows.length∧GW k rows then .sl false ((rows.drop off).take len) else .osl m k off len
 | d=>d
theorem Uu {K:St→Prop} (n:Nm) {t:TypeId} {k:Nat} {rows:List D} (hn:get st.σ n=some (.arr t k rows))
  (h:K { env:=DO (frzD n rows) st.env,σ:=Dq (frzD n rows) (del st.σ n) }):Sees E st K:=by
 refine KI hn (frzD n rows) (fun _ _ w _ _ A X G' F G H x d Y=>?_) h;have keep:V G' w x d:=Y.mono F (fun _ _=>rfl) (fun m u v=>by rw[H]; exact v);cases Y with
 | own R =>
  rename_i m a len S;simp only[frzD];split
  ·rename_i J;subst J;rw[R] at A;cases A;obtain ⟨z,O,g⟩:=X;rcases O.2 with ⟨l,Z⟩ | ⟨b,a3,B,l,_,N,W,_,a6,P⟩
   ·cases l;have:rows=[]:=ex Z;subst this;exact .nilsl _
   ·cases l;have I:∀ (q:Nat) y,z[q]?=some y→w.cell? ⟨b,q,none⟩=some y:=fun q y e=>by
     rw[cell_of_row w b q B t (0,0) N];rw[← P,eb] at e;split at e
     ·simpa using e
     ·cases e
    refine .sl (k:=k) (fun i j=>(z[i * k + j]?).getD undef) rfl (fun h=>by cases h) W (G b rfl) (fun i r c=>(g i r c).1) (fun i r j d c o=>?_) (fun i r j d c o=>?_)
    ·obtain ⟨y,f,_⟩:=(g i r c).2 j d o;rw[eN,I _ _ f,f]
     rfl
    ·obtain ⟨y,f,Q⟩:=(g i r c).2 j d o;rw[f];exact Q.mono F (fun _ _=>rfl) (fun m u v=>by rw[H]; exact v)
  ·exact keep
 | osl R hC a9 T =>
  rename_i m b p s len S L C a;simp only[frzD];split
  ·rename_i J;obtain ⟨rfl,af,aa⟩:=J;rw[R] at A;cases A;obtain ⟨z,O,g⟩:=X;by_cases a8:len=0
   ·subst a8;rw[gG];by_cases a5:S=0
    ·subst a5; exact .esl _ _
    ·rw[T (by omega)];exact .sl (rows:=[]) (n:=0) (k:=p) (fun _ _=>undef) rfl (fun h=>by cases h) (dX _) (G b rfl) (fun i r c=>by simp at c) (fun i r j d c=>by simp at c) (fun i r j d c=>by simp at c)
   rcases O.2 with ⟨l,Z⟩ | ⟨b',a3,B,l,_,N,W,_,a6,P⟩
   ·cases l
   ·cases l;have I:∀ (q:Nat) y,z[q]?=some y→w.cell? ⟨b,q,none⟩=some y:=fun q y e=>by
     rw[cell_of_row w b q B t (0,0) N];rw[← P,eb] at e;split at e
     ·simpa using e
     ·cases e
    have a7:p=k:=by
     have U:0 < rows.length:=by omega
     have a1:=(g 0 _ (dO U)).1;have a2:=aa _ (dP U);omega
    subst a7;rw[T (by omega)];have M:∀ (i:Nat) r,((rows.drop s).take len)[i]?=some r→rows[s + i]?=some r:=fun i r c=>by
     rw[eb] at c;split at c
     ·rw[eR] at c; exact c
     ·cases c
    refine .sl (rows:=(rows.drop s).take len) (n:=len) (k:=p) (fun i j=>(z[(s + i) * p + j]?).getD undef) (by simp; omega) (fun h=>by cases h) a9 (G b rfl) (fun i r c=>(g _ r (M i r c)).1) (fun i r j d c o=>?_) (fun i r j d c o=>?_)
    ·obtain ⟨y,f,_⟩:=(g _ r (M i r c)).2 j d o;have e1:s * p + (i * p + j)=(s + i) * p + j:=by rw[fG]; omega
     rw[e1,I _ _ f,f]
     rfl
    ·obtain ⟨y,f,Q⟩:=(g _ r (M i r c)).2 j d o;rw[f];exact Q.mono F (fun _ _=>rfl) (fun m u v=>by rw[H]; exact v)
  ·exact keep
 | _=>exact keep
def boxD (n:Nm) (cs:List D):D→D
 | .ptr m off=>if m=n then .eptr (cs.drop off) else .ptr m off
 | d=>d
theorem YV {K:St→Prop} (n:Nm) {t:TypeId} {cs:List D} (hn:get st.σ n=some (.box t cs))
  (h:K { env:=DO (boxD n cs) st.env,σ:=Dq (boxD n cs) (del st.σ n) }):Sees E st K:=by
 refine KI hn (boxD n cs) (fun _ _ w _ _ o A q i r k x d p=>?_) h;have keep:V q w x d:=p.mono i (fun _ _=>rfl) (fun m u g=>by rw[k]; exact g);cases p with
 | ptr B =>
  rename_i m b e;simp only[boxD];split
  ·rename_i y;subst y;rw[B] at o;cases o;obtain ⟨F,c,s,z,G,v⟩:=A;cases s;have l:∀ j d,(cs.drop e)[j]?=some d→e + j < c.size∧cs[e + j]?=some d:=fun j d a=>by
    rw[eR] at a;exact ⟨by have:=(dW.1 a).1; omega,a⟩
   refine .eptr (fun j=>c.getD (e + j) undef) (r b rfl) (fun j d a=>?_) (fun j d a=>?_)
   ·obtain ⟨f,_⟩:=l j d a;rw[cell_of_row w b (e + j) c t (0,0) z];simp[f]
   ·obtain ⟨f,C⟩:=l j d a;have:=v (e + j) c[e + j] d (by simp[f]) C;simp only[er,f,getElem?_pos,eX];exact this.mono i (fun _ _=>rfl) (fun m u g=>by rw[k]; exact g)
  ·exact keep
 | _=>exact keep
theorem Vl {w0:World} {G:Gh} {w:World} {a:Act} (hr:Rel w0 G w a st) (t:TypeId) {k:Nat} :
  ∃ G' g,(∀ i j,get st.σ ⟨g,i,j⟩=none)∧(G'.ρ ⟨g,0,0⟩=some (.slice none 0 0))∧(∀ v d,V G w v d→V G' w v d)∧WF w0 G' w∧Objs w0 G' w (Kp.or (single ⟨g,0,0⟩ (.arr t k [])) (get st.σ))∧Step no G w (get st.σ) G' w (Kp.or (single ⟨g,0,0⟩ (.arr t k [])) (get st.σ)):=by
 obtain ⟨u,r,p,s,b,e⟩:=bump hr;obtain ⟨f,l,c⟩:=Gf b.wf b.objs (p 0 0) (by rw[r]; exact gj _) (w':=w) (v:=.slice none 0 0) (ob:=.arr t k []) (Gr.of ⟨rfl,rfl,rfl,ec _,fun _ _ _=>rfl⟩) (fun _ n=>by simp[blk] at n) ⟨[],World.ownsRow_nil _ _ _ _,fun i _ h=>by simp at h⟩;refine ⟨_,G.top,s,by simp[Gh.upd],fun v d h=>?_,f,l,?_⟩
 ·exact (h.step e hr.wf hr.objs).step c b.wf b.objs
 ·have:=(e.weaken (R':=fun m=>m=⟨G.top,0,0⟩) fun _ _ h=>h.elim).trans c;exact this.weaken fun m q o=>by subst o; exact absurd q (ik _)
theorem SV {K:St→Prop} (t:Nat) (ty:TypeId) (k:Nat) (ht:lk st.env t=some (.val (.slice none 0 0))) (h:∀ g,(∀ i j,get st.σ ⟨g,i,j⟩=none)→K { env:=(t,.own ⟨g,0,0⟩ 0) :: st.env,σ:=(⟨g,0,0⟩,.arr ty k []) :: st.σ }):Sees E st K:=by
 intro y _ G w a b;obtain ⟨p,f,q,r,s,v,o,l⟩:=Vl b ty (k:=k);have x:Kp.or (single ⟨f,0,0⟩ (.arr ty k [])) (get st.σ)=get ((⟨f,0,0⟩,.arr ty k []) :: st.σ):=by rw[← CI,← Bj]; rfl
 rw[x] at o l;refine ⟨p,_,⟨v,fun u d c=>?_,o,b.defers.step l b.wf b.objs⟩,l,h f q⟩;simp only[lk] at c;split at c
 ·rename_i e;subst e;cases c;obtain ⟨m,n⟩:=b.env t _ ht;refine ⟨m,?_⟩;rw[V.of_val n];exact .own r
 ·obtain ⟨m,n⟩:=b.env u d c;exact ⟨m,s _ _ n⟩
theorem SW {K:St→Prop} (m:Nm) (i:Nat) (ty:TypeId) (k:Nat) {u:TypeId} {cs:List D} (hm:get st.σ m=some (.box u cs)) (hi:cs[i]?=some (.val (.slice none 0 0)))
  (h:∀ g,(∀ i j,get st.σ ⟨g,i,j⟩=none)→K { env:=st.env,σ:=(⟨g,0,0⟩,.arr ty k []) :: set st.σ m (.box u (cs.set i (.own ⟨g,0,0⟩ 0))) }):Sees E st K:=by
 intro X _ G w a o;obtain ⟨L,y,z,A,B,q,p,r⟩:=Vl o ty (k:=k);generalize F:(⟨y,0,0⟩:Nm)=n at A B q p r;have M:get st.σ n=none:=by rw[← F]; exact z 0 0
 have H:n≠m:=fun e=>by subst e; rw[M] at hm; cases hm
 have I:Kp.or (single n (.arr ty k [])) (get st.σ) m=some (.box u cs):=by
  unfold Kp.or single;rw[if_neg H];simpa using hm
 obtain ⟨v,S,⟨b,c,rfl,O,Q,C⟩,_⟩:=p.ob m _ I;obtain ⟨W,J,s⟩:=EV (w':=w) (ob':=.box u (cs.set i (.own n 0))) q p I S (Gr.of ⟨rfl,rfl,rfl,ec _,fun _ _ _=>rfl⟩) ⟨b,c,rfl,O,by simpa using Q,fun j x d l f=>by
  rw[gl] at f;split at f
  ·rename_i P;subst P;split at f
   ·cases f;have:=V.of_val (C _ _ _ l hi);rw[this];exact .own A
   ·cases f
  ·exact C j x d l f⟩
 have N:(Kp.or (single n (.arr ty k [])) (get st.σ)).put m (.box u (cs.set i (.own n 0)))=get ((n,.arr ty k []) :: set st.σ m (.box u (cs.set i (.own n 0)))):=by
  funext x
  simp only[Kp.put,Kp.or,single,get,Vk st.σ m _ (by rw[hm]; simp)];by_cases l:m=x
  ·subst l;rw[if_pos rfl,if_neg H,if_pos rfl]
  ·rw[if_neg l,if_neg l];split <;> simp
 rw[N] at J s;refine ⟨L,_,⟨W,fun t d R=>?_,J,(o.defers.step r o.wf o.objs).step s q p⟩,r.trans (s.weaken fun _ _ h=>h.elim),F ▸ h y z⟩;obtain ⟨T,U⟩:=o.env t d R;exact ⟨T,B _ _ U⟩
def look:List (Nm × Nat × Ob)→Nat→Option (Nm × Ob)
 | [],_=>none
 | (n,j,o) :: r,i=>if j=i then some (n,o) else look r i
theorem KJ:∀ {l:List (Nm × Nat × Ob)} {i:Nat} {n:Nm} {o:Ob},look l i=some (n,o)→(n,i,o)∈l
 | [],_,_,_,h=>by simp[look] at h
 | (n',j,o') :: r,i,n,o,h=>by
  simp only[look] at h;split at h
  ·rename_i e; subst e; cases h; exact dY
  ·exact ea _ (KJ h)
def Gv (g d:Nat):List (Nm × Nat × Ob)→Sto
 | []=>[]
 | (_,j,o) :: r=>(⟨g,d,j⟩,o) :: Gv g d r
theorem KK (g d:Nat):∀ (l:List (Nm × Nat × Ob)) (m:Nm),get (Gv g d l) m=if m.g=g∧m.i=d then (look l m.j).map (·.2) else none
 | [],m=>by simp[Gv,get,look]
 | (n,j,o) :: r,m=>by
  simp only[Gv,get,look];obtain ⟨mg,mi,mj⟩:=m;by_cases h:mg=g∧mi=d
  ·obtain ⟨rfl,rfl⟩:=h;simp only[Nm.mk.injEq,true_and,and_self,if_true];split
   ·rfl
   ·rw[KK mg mi r];simp
  ·rw[if_neg (fun e=>h (by cases e; exact ⟨rfl,rfl⟩)),if_neg h,KK g d r,if_neg h]
def renD (g d:Nat):List (Nm × Nat × Ob)→D→D
 | [],x=>x
 | (n,j,_) :: r,.own m l=>if n=m then .own ⟨g,d,j⟩ l else renD g d r (.own m l)
 | _ :: _,x=>x
theorem YW {fn:Func} {g d:Nat} {r:D} {l:List ResultVar} (hl:fn.results=l.toArray) {ds:List D} (h:resD E.P st l=some ds) (ren:List (Nm × Nat × Ob)) (hren:∀ e∈ren,get st.σ e.1=some e.2.2∧look ren e.2.1=some (e.1,e.2.2))
  (hne:∀ e∈ren,∀ e'∈ren,e.2.1≠e'.2.1→e.1≠e'.1) (hr:Co ((resV ds).sub (·.sub (renD g d ren))) r):Ends E fn g d r (Gv g d ren) st:=by
 intro w0 _ G w a f K;obtain ⟨v,Y,Z⟩:=JD (E:=E) f hl h
 let G' : Gh:={ G with ρ:=fun m=>if m.g=g∧m.i=d then (match look ren m.j with | some p=>G.ρ p.1 | none=>none) else G.ρ m }
 have X:∀ m u,G.ρ m=some u→G'.ρ m=some u:=by
  intro m u c
  show (if m.g=g∧m.i=d then _ else _)=_;rw[if_neg,c];rintro ⟨rfl,rfl⟩;rw[K.2 m.j] at c;cases c
 have I:∀ x y,V G w x y→V G' w x y:=fun x y h=>h.mono (fun _ h=>h) (fun _ _=>rfl) X;have T:∀ n j o,look ren j=some (n,o)→G'.ρ ⟨g,d,j⟩=G.ρ n:=fun n j o z=>by
  show (if g=g∧d=d then _ else _)=_;rw[if_pos ⟨rfl,rfl⟩];simp only[z]
 have a8:∀ (B : List (Nm × Nat × Ob)),(∀ e∈B,e∈ren)→∀ x y,V G w x y→V G' w x (renD g d B y):=by
  intro B;induction B with
  | nil=>intro _ x y k; exact I x y k
  | cons e B ih =>
   intro U x y k;obtain ⟨n,j,o⟩:=e;cases y with
   | own m len =>
    simp only[renD];split
    ·rename_i J;subst J;cases k with
     | own aa =>
      have:=hren _ (U _ dY);exact .own ((T n j o this.2).trans aa)
    ·exact ih (fun e J=>U e (ea _ J)) x _ k
   | _=>exact I _ _ k
 have C:∀ m o,get (Gv g d ren) m=some o→m.g=g∧m.i=d∧∃ n,look ren m.j=some (n,o)∧get st.σ n=some o∧G'.ρ m=G.ρ n:=by
  intro m o c;rw[KK] at c;split at c
  ·rename_i q;obtain ⟨rfl,rfl⟩:=q;simp only[ee] at c;obtain ⟨⟨n,F⟩,z,rfl⟩:=c;exact ⟨rfl,rfl,n,z,(hren _ (KJ z)).1,T n m.j F z⟩
  ·cases c
 refine ⟨v,G',Y,⟨f.wf.below,f.wf.old,f.wf.lt,fun m u c=>?_⟩,hr G' w v (Z.sub fun x y k=>k.sub (a8 ren fun _ h=>h)),⟨fun m o c=>?_,fun m Q o F u u' b M N a5 O k4 k5 k6=>?_⟩,?_⟩
 ·have A : (if m.g=g∧m.i=d then (match look ren m.j with | some p=>G.ρ p.1 | none=>none) else G.ρ m)=some u:=c;split at A
  ·rename_i q;split at A
   ·rename_i p hp;exact ⟨by rw[q.1]; exact K.1,(f.wf.nm _ u A).2⟩
   ·cases A
  ·exact f.wf.nm m u A
 ·obtain ⟨_,_,n,_,L,H⟩:=C m o c;obtain ⟨u,hu,a7,hF⟩:=f.objs.ob n o L;exact ⟨u,H.trans hu,a7.mono I fun _ _=>rfl,hF⟩
 ·obtain ⟨s,t,n,q1,q2,q3⟩:=C m o M;obtain ⟨R,S,n',q4,q5,q6⟩:=C Q F N;have hj:m.j≠Q.j:=fun e=>a5 (by obtain ⟨a1,a2,a3⟩:=m; obtain ⟨b1,b2,b3⟩:=Q; simp only at s t R S e; subst s; subst t; subst R; subst S; subst e; rfl);exact f.objs.ne n n' o F u u' b q2 q5 (hne _ (KJ q1) _ (KJ q4) hj) (q3 ▸ O) (q6 ▸ k4) k5 k6
 ·refine ⟨ec _,fun _ _ _=>rfl,fun _ h=>h,fun _ h=>.inl h,X,fun m _ c a6=>?_,ec _,fun b ⟨m,o,u,M,N,O⟩=>?_,fun m c=>?_,rfl⟩
  ·show (if m.g=g∧m.i=d then _ else _)=_;rw[if_neg (fun q=>a6 ⟨q.1,by rw[q.2]⟩)];exact c
  ·obtain ⟨_,_,n,_,L,H⟩:=C m o M;exact .inr ⟨n,o,u,L,H.symm.trans N,O⟩
  ·cases W:get (Gv g d ren) m with
   | none=>exact absurd W c
   | some o =>
    obtain ⟨s,t,_⟩:=C m o W;obtain ⟨mg,mi,mj⟩:=m;simp only at s t;subst s;subst t;exact .inr (K.2 mj)
end
def SomeP {α:Type}:Option α→(α→Prop)→Prop
 | some x,p=>p x
 | none,_=>False
theorem SomeP.elim {α:Type} {o:Option α} {p:α→Prop} (h:SomeP o p):∃ x,o=some x∧p x:=by
 cases o with
 | none=>exact (show False from h).elim
 | some x=>exact ⟨x,rfl,h⟩
section
variable {E:Ctx} {N:Nat} {st:St} {K:St→Prop} {Q:Exit→St→Prop}
theorem Xp {id:Nat} {l:List Oper} {ds:List (Option Tmp)} (n:Nat) (hd:EJ N l=true) (hds:l.map (·.dst)=ds)
  (h:∀ g,(∀ i j,get st.σ ⟨g,i,j⟩=none)→SomeP (arun E ds g n l st) fun r=>r.1=[]∧Q .normal r.2):AWp E N (.region id l.toArray false) Q st:=by
 refine Pf hd fun g d=>?_;obtain ⟨⟨e,f⟩,b,a,c⟩:=(h g d).elim;simp only at a;subst a;exact Oh n hds b (IA c)
theorem aat {id:Nat} {l:List Oper} {ds:List (Option Tmp)} (hd:EJ N l=true) (hds:l.map (·.dst)=ds)
  (h:∀ g,(∀ i j,get st.σ ⟨g,i,j⟩=none)→∀ (ops:List Oper) (K:St→Prop),ops.map (·.dst)=ds→(∀ s,Q .normal s→K s)→AOps E N ops g K l st):AWp E N (.region id l.toArray false) Q st :=
 Pf hd fun g hg=>h g hg l _ hds fun _ h=>h
variable {ops l:List Oper} {ds:List (Option Tmp)} {g:Nat} {σ0:Sto}
theorem Af (n:Nat) (hds:ops.map (·.dst)=ds) (h:SomeP (arun E ds g n l st) fun r=>AOps E N ops g K r.1 r.2):AOps E N ops g K l st:=by
 obtain ⟨⟨c,d⟩,a,b⟩:=h.elim;exact Oh n hds a b
theorem Ad (n:Nat) (hds:ops.map (·.dst)=ds) (h:SomeP (arun E ds g n l st) fun r=>r.1=[]∧K r.2):AOps E N ops g K l st:=by
 obtain ⟨⟨d,e⟩,b,a,c⟩:=h.elim;simp only at a;subst a;exact Oh n hds b (IA c)
theorem Av (n:Nat) (hds:ops.map (·.dst)=ds) (h:SomeP (qrun E ds g σ0 n l st) fun r=>QRun E ops g σ0 K r.1 r.2):QRun E ops g σ0 K l st:=by
 obtain ⟨⟨c,d⟩,a,b⟩:=h.elim;exact SU n hds a b
theorem Ap (n:Nat) (hds:ops.map (·.dst)=ds) (h:SomeP (qrun E ds g σ0 n l st) fun r=>r.1=[]∧K r.2):QRun E ops g σ0 K l st:=by
 obtain ⟨⟨d,e⟩,b,a,c⟩:=h.elim;simp only at a;subst a;exact SU n hds b (YS c)
theorem aau {id:Nat} {l:List Oper} {ds:List (Option Tmp)} (nq:Nat) (hnq:decide (nq≤l.length)=true) (hok:Dg N l nq=true) (hds:l.map (·.dst)=ds)
  (h:∀ g,(∀ i j,get st.σ ⟨g,i,j⟩=none)→∀ (ops:List Oper) (K:St→Prop),ops.map (·.dst)=ds→(∀ s,Q .normal s→K s)→QRun E ops g st.σ (AOps E N ops g K (l.drop nq)) (l.take nq) st):AWp E N (.region id l.toArray true) Q st :=
 SS nq (by simpa using hnq) hok fun g hg=>h g hg l _ hds fun _ h=>h
theorem YX {id:Nat} {l:List Oper} {ds:List (Option Tmp)} (hok:Dg N l l.length=true) (hds:l.map (·.dst)=ds)
  (h:∀ g,(∀ i j,get st.σ ⟨g,i,j⟩=none)→∀ (ops:List Oper) (K:St→Prop),ops.map (·.dst)=ds→(∀ s,Q .normal s→K s)→QRun E ops g st.σ K l st):AWp E N (.region id l.toArray true) Q st :=
 SS l.length (ec _) hok fun g hg=>by
  rw[eo,eY];obtain ⟨tr,env',h1,h2⟩:=h g hg l _ hds fun _ h=>h;exact ⟨tr,env',h1,IA h2⟩
theorem Az {c:Code} {st' : St} (hl:Le st' st) (h:AWp E N c Q st'):AWp E N c Q st:=Sees.awp (Sees.keep hl h)
end
def leE:List (Nat × D)→List (Nat × D)→Prop
 | [],_=>True
 | (t,d) :: r,e=>lk e t=some d∧leE r e
def leS:Sto→Sto→Prop
 | [],_=>True
 | (n,o) :: r,σ=>get σ n=some o∧leS r σ
theorem CD:∀ {l e:List (Nat × D)},leE l e→∀ p∈l,lk e p.1=some p.2
 | [],_,_,p,hp=>by cases hp
 | (t,d) :: r,e,h,p,hp=>by
  rcases eq.1 hp with rfl | hp
  ·exact h.1
  ·exact CD h.2 p hp
theorem KM:∀ {l σ:Sto},leS l σ→∀ p∈l,get σ p.1=some p.2
 | [],_,_,p,hp=>by cases hp
 | (n,o) :: r,σ,h,p,hp=>by
  rcases eq.1 hp with rfl | hp
  ·exact h.1
  ·exact KM h.2 p hp
theorem Ao {st st' : St} (h:leE st'.env st.env∧leS st'.σ st.σ):Le st' st:=⟨CD h.1,KM h.2⟩
theorem Au (x:Int) (h1:-9223372036854775808≤x) (h2:x≤9223372036854775807):IntKind.i64.wrap x=x:=by
 simp only[IntKind.wrap,IntKind.bits,IntKind.signed,gk,decide_eq_true_eq,ge_iff_le];have e:(2:Int) ^ 64=18446744073709551616:=by decide
 have a:(2:Int) ^ (64 - 1)=9223372036854775808:=by decide
 rw[e,a];split <;> omega
theorem Xq (rows:List D) (k:Nat):at? rows (k:Int)=rows[k]?:=by simp[at?]
theorem abu (rows:List D) (k:Nat):at? rows (OfNat.ofNat k:Int)=rows[k]?:=by
 have:(OfNat.ofNat k:Int)=((k:Nat):Int):=rfl;rw[this,Xq]
section
variable (f:D→D) (v:Value) (cs ds:List D) (x:Bool) (n:Nm) (i j k:Nat) (fn:Fn) (t:TypeId) (d:D)
@[go_sem] theorem ack:(D.agg cs).cells=cs:=rfl
@[go_sem] theorem acl:(D.val v).cells=[.val v]:=rfl
@[go_sem] theorem acs:(D.sl x cs).cells=[.sl x cs]:=rfl
@[go_sem] theorem acm:(D.own n i).cells=[.own n i]:=rfl
@[go_sem] theorem acn:(D.osl n i j k).cells=[.osl n i j k]:=rfl
@[go_sem] theorem acC:(D.osl n i j k).one=true:=rfl
@[go_sem] theorem acD:(D.osl n i j k).sub f=f (.osl n i j k):=rfl
@[go_sem] theorem aco:(D.ptr n i).cells=[.ptr n i]:=rfl
@[go_sem] theorem abT:(D.aptr n i j k).cells=[.aptr n i j k]:=rfl
@[go_sem] theorem abU:(D.eptr cs).cells=[.eptr cs]:=rfl
@[go_sem] theorem acp:(D.unk).cells=[.unk]:=rfl
@[go_sem] theorem acE:(D.unk).one=true:=rfl
@[go_sem] theorem abV:(D.mref n).cells=[.mref n]:=rfl
@[go_sem] theorem abW {ks:KS} {es:List (Value × D)}:(D.fmap ks es).cells=[.fmap ks es]:=rfl
@[go_sem] theorem abX:(D.func fn cs ds).cells=[.func fn cs ds]:=rfl
@[go_sem] theorem abS:(D.iface t d).cells=[.iface t d]:=rfl
@[go_sem] theorem acF:(D.val v).one=v.oneCell':=rfl
@[go_sem] theorem acR:(D.sl x cs).one=true:=rfl
@[go_sem] theorem acG:(D.own n i).one=true:=rfl
@[go_sem] theorem acH:(D.ptr n i).one=true:=rfl
@[go_sem] theorem act:(D.aptr n i j k).one=true:=rfl
@[go_sem] theorem acu:(D.eptr cs).one=true:=rfl
@[go_sem] theorem acv:(D.mref n).one=true:=rfl
@[go_sem] theorem acw {ks:KS} {es:List (Value × D)}:(D.fmap ks es).one=true:=rfl
@[go_sem] theorem acx:(D.func fn cs ds).one=true:=rfl
@[go_sem] theorem acq:(D.iface t d).one=true:=rfl
@[go_sem] theorem acI:(D.agg cs).sub f=.agg (cs.map f):=rfl
@[go_sem] theorem acJ:(D.tup cs).sub f=.tup (cs.map f):=rfl
@[go_sem] theorem acy:(D.func fn cs ds).sub f=.func fn (cs.map f) (ds.map f):=rfl
@[go_sem] theorem acK:(D.val v).sub f=f (.val v):=rfl
@[go_sem] theorem acS:(D.sl x cs).sub f=f (.sl x cs):=rfl
@[go_sem] theorem acL:(D.own n i).sub f=f (.own n i):=rfl
@[go_sem] theorem acM:(D.ptr n i).sub f=f (.ptr n i):=rfl
@[go_sem] theorem acz:(D.aptr n i j k).sub f=f (.aptr n i j k):=rfl
@[go_sem] theorem acA:(D.eptr cs).sub f=f (.eptr cs):=rfl
@[go_sem] theorem acB:(D.mref n).sub f=f (.mref n):=rfl
@[go_sem] theorem acr:(D.iface t d).sub f=f (.iface t d):=rfl
end
attribute [go_sem] SomeP arun OX sliD OY Iw MS Cv Hz dop dopR lk ev ofV HR cut nilD intD strD OR ptrD eqR binD subD OZ JP unD So Gt HS OS HT OT lenD lenM mmD capD OW MQ Sp okD keyD I8 KC.fits KC.fitsL KS.fits Pg over Ky OU Gg EA
 get set del dels St.put St.env' putE Jf qrun CO F1 Sy Gi resD resV DO Dq frzD boxD Ob.sub Gv renD look nwOk Xq abu
 Nm.mk.injEq accN leE leS Option.some.injEq D.val.injEq Value.int.injEq D.own.injEq D.osl.injEq D.sl.injEq D.agg.injEq D.ptr.injEq Ob.box.injEq Ob.arr.injEq List.cons.injEq Value.bool.injEq Value.string.injEq Int.ofNat_lt Int.ofNat_le decide_true decide_false Option.isSome_some hW beq_true beq_false
 gP List.drop_succ_cons List.drop_nil gG ip List.take_nil eB eZ List.all_cons List.all_nil eM f9 List.head?_cons
 ey fK fe gt f8 List.set_cons_zero List.set_cons_succ List.replicate_succ List.replicate_zero
 eH Option.map_none fT Option.bind_none eX Option.getD_none
 Nat.reduceEqDiff Nat.reduceAdd Nat.reduceLeDiff Nat.reduceLT Nat.reduceMul Int.reduceEq Int.reduceNe Int.reduceLT Int.reduceLE Int.reduceNeg Int.reduceToNat eN gD
 if_true if_false fb reduceIte reduceCtorEq and_true true_and and_false false_and and_self gL gk fN fc Bool.or_false fL fQ f7 beq_self_eq_true
 Value.oneCell' Value.cells
end Go.Ab
