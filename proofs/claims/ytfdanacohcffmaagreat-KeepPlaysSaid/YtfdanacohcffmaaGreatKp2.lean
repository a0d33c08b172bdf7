/- Levels of names that rise along edges: how soon they settle, and how high they come. Conditions: none. -/
import Derived.Calls
set_option linter.unusedVariables false
namespace Go.AM.fJ
abbrev Nm:=List UInt8
structure Edge where
 b:Nm
 w:Nat
 h:Nm
abbrev Lv:=Nm->Nat
def jH(L:Lv)(e:Edge):Lv:=if L e.h<L e.b+e.w then (fun x=>if x=e.h then L e.b+e.w else L x) else L
def round(E:List Edge)(L:Lv):Lv:=E.foldl jH L
def ef(E:List Edge)(L:Lv):Prop:=∀ e ∈ E,L e.b+e.w<=L e.h
instance (E:List Edge) (L:Lv):Decidable (ef E L):=inferInstanceAs (Decidable (∀ e ∈ E,L e.b+e.w<=L e.h))
def iter(E:List Edge):Nat->Lv
 |0=>fun _=>0
 |k+1=>round E (iter E k)
theorem Nv(L:Lv)(e:Edge)(x:Nm):L x<=jH L e x:=by
 unfold jH;split
 ·simp only;split
  ·rename_i h1 h2;subst h2;omega
  ·exact Nat.le_refl _
 ·exact Nat.le_refl _
theorem Qz(L:Lv)(e:Edge):L e.b+e.w<=jH L e e.h:=by
 unfold jH;split
 ·simp
 ·rename_i h;omega
theorem V2{L U:Lv}{e:Edge}(h:∀ x,L x<=U x)(he:U e.b+e.w<=U e.h)(x:Nm):jH L e x<=U x:=by
 unfold jH;split
 ·simp only;split
  ·rename_i h2;subst h2;have:=h e.b;omega
  ·exact h x
 ·exact h x
theorem Gh:∀ (E:List Edge) (L:Lv) (x:Nm),L x<=E.foldl jH L x
 |[],_,_=>Nat.le_refl _
 |e :: E,L,x=>Nat.le_trans (Nv L e x) (Gh E _ x)
theorem Gi{U:Lv}:∀ {E:List Edge} {L:Lv},(∀ x,L x<=U x)->(∀ e ∈ E,U e.b+e.w<=U e.h)->∀ x,E.foldl jH L x<=U x
 |[],_,h,_=>h
 |e :: E,L,h,hs=>Gi (E:=E) (L:=jH L e) (V2 h (hs e List.mem_cons_self)) fun f hf=>hs f (List.mem_cons_of_mem _ hf)
theorem A8:∀ {E:List Edge} {L:Lv} {e:Edge},e ∈ E->L e.b+e.w<=round E L e.h
 |f :: E,L,e,h=>by
  rcases List.mem_cons.1 h with rfl|h
  ·exact Nat.le_trans (Qz L e) (Gh E _ _)
  ·have h1:=A8 (E:=E) (L:=jH L f) h;have h2:=Nv L f e.b;exact Nat.le_trans (by omega) h1
theorem GC{L:Lv}{e:Edge}(h:L e.b+e.w<=L e.h):jH L e=L:=by
 unfold jH;rw [if_neg (by omega)]
theorem A9{E:List Edge}{L:Lv}(h:ef E L):round E L=L:=by
 unfold round
 induction E with
 |nil=>rfl
 |cons e E ih=>
  rw [List.foldl_cons,GC (h e List.mem_cons_self)];exact ih fun f hf=>h f (List.mem_cons_of_mem _ hf)
theorem vF{E:List Edge}{U:Lv}(hU:ef E U):∀ k x,iter E k x<=U x
 |0,x=>Nat.zero_le _
 |k+1,x=>Gi (vF hU k) hU x
theorem Ko{E:List Edge}{U:Lv}{k:Nat}(hU:ef E U)(h:∀ x,iter E k x<=U x):∀ d x,iter E (k+d) x<=U x
 |0,x=>h x
 |d+1,x=>Gi (Ko hU h d) hU x
theorem Kp(E:List Edge)(k:Nat)(x:Nm):iter E k x<=iter E (k+1) x:=Gh E _ x
theorem vG{E:List Edge}{k:Nat}(h:ef E (iter E k)):∀ d,iter E (k+d)=iter E k
 |0=>rfl
 |d+1=>by
  show round E (iter E (k+d))=_;rw [vG h d,A9 h]
theorem Kq{E:List Edge}{j k:Nat}(hj:ef E (iter E j))(hk:ef E (iter E k)):iter E j=iter E k:=by
 rcases Nat.le_total j k with h|h
 ·obtain ⟨d,rfl⟩:=Nat.le.dest h;exact (vG hj d).symm
 ·obtain ⟨d,rfl⟩:=Nat.le.dest h;exact vG hk d
theorem filter_lt{α:Type}{p q:α->Bool}{l:List α}(h1:∀ x,q x=true->p x=true){x:α}(hx:x ∈ l)(hp:p x=true)(hq:q x=false):(l.filter q).length<(l.filter p).length:=by
 have:l.filter q=(l.filter p).filter q:=by
  rw [List.filter_filter];refine List.filter_congr fun y _=>?_
  cases hy:q y with
  |true=>rw [h1 y hy];rfl
  |false=>rfl
 rw [this];exact List.length_filter_lt_length_iff_exists.2 ⟨x,List.mem_filter.2 ⟨hx,hp⟩,by rw [hq];decide⟩
theorem settle{E:List Edge}{N:List Nm}(hN:∀ e ∈ E,e.b ∈ N/\e.h ∈ N){K:Nat}(hK:ef E (iter E K)):ef E (iter E N.length):=by
 have key:∀ k,(N.filter fun v=>decide (iter E k v<iter E K v)).length+k<=N.length\/∀ v ∈ N,iter E k v=iter E K v:=by
  intro k
  induction k with
  |zero=>exact .inl (by have:=List.length_filter_le (fun v=>decide (iter E 0 v<iter E K v)) N;omega)
  |succ k ih=>
   by_cases jS:∀ v ∈ N,iter E k v=iter E K v
   ·refine .inr fun v hv=>?_;have h1:=Kp E k v;have h2:=vF hK (k+1) v;have:=jS v hv;omega
   ·rcases ih with ih|ih
    ·by_cases rY:∃ v ∈ N,iter E k v<iter E K v/\¬ iter E (k+1) v<iter E K v
     ·obtain ⟨v,hv,h1,h2⟩:=rY;refine .inl ?_
      have:=filter_lt (l:=N) (p:=fun v=>decide (iter E k v<iter E K v)) (q:=fun v=>decide (iter E (k+1) v<iter E K v)) (fun x hx=>by
       have:=of_decide_eq_true hx;have:=Kp E k x
       exact decide_eq_true (by omega)) hv (decide_eq_true h1) (decide_eq_false h2)
      omega
     ·exfalso;have hT:∀ v ∈ N,iter E k v<iter E K v->iter E (k+1) v<iter E K v:=fun v hv h=>Classical.byContradiction fun hn=>rY ⟨v,hv,h,hn⟩
      let U:Lv:=fun v=>if v ∈ N/\iter E k v<iter E K v then iter E K v-1 else iter E K v
      have hU:ef E U:=fun e he=>by
       obtain ⟨hb,hh⟩:=hN e he;have jL:=hK e he;show (if e.b ∈ N/\iter E k e.b<iter E K e.b then iter E K e.b-1 else iter E K e.b)+e.w<=(if e.h ∈ N/\iter E k e.h<iter E K e.h then iter E K e.h-1 else iter E K e.h);by_cases th:iter E k e.h<iter E K e.h
       ·rw [if_pos (show e.h ∈ N/\iter E k e.h<iter E K e.h from ⟨hh,th⟩)];by_cases tb:iter E k e.b<iter E K e.b
        ·rw [if_pos (show e.b ∈ N/\iter E k e.b<iter E K e.b from ⟨hb,tb⟩)];omega
        ·rw [if_neg (show ¬ (e.b ∈ N/\iter E k e.b<iter E K e.b) from fun h=>tb h.2)];have h1:iter E k e.b+e.w<=iter E (k+1) e.h:=A8 he;have h2:=hT e.h hh th;omega
       ·rw [if_neg (show ¬ (e.h ∈ N/\iter E k e.h<iter E K e.h) from fun h=>th h.2)];split<;>omega
      have hle:∀ x,iter E k x<=U x:=fun x=>by
       show iter E k x<=if x ∈ N/\iter E k x<iter E K x then iter E K x-1 else iter E K x;have:=vF hK k x;split
       ·rename_i h;omega
       ·exact this
      obtain ⟨v,hv,hne⟩:∃ v ∈ N,iter E k v≠iter E K v:=Classical.byContradiction fun hn=>jS fun v hv=>Classical.byContradiction fun h=>hn ⟨v,hv,h⟩;have hlt:iter E k v<iter E K v:=by have:=vF hK k v;omega
      have hb:iter E K v<=U v:=by
       rcases Nat.le_total k K with h|h
       ·obtain ⟨d,rfl⟩:=Nat.le.dest h;exact Ko hU hle d v
       ·obtain ⟨d,rfl⟩:=Nat.le.dest h;rw [vG hK d] at hlt;omega
      have:U v=iter E K v-1:=if_pos ⟨hv,hlt⟩;omega
    ·exact absurd ih jS
 have QA:∀ v ∈ N,iter E N.length v=iter E K v:=by
  rcases key N.length with h|h
  ·intro v hv;have h0:(N.filter fun v=>decide (iter E N.length v<iter E K v)) = []:=List.eq_nil_of_length_eq_zero (by omega);have h1:=vF hK N.length v;by_cases hlt:iter E N.length v<iter E K v
   ·have:v ∈ (N.filter fun v=>decide (iter E N.length v<iter E K v)):=List.mem_filter.2 ⟨hv,decide_eq_true hlt⟩;rw [h0] at this;cases this
   ·omega
  ·exact h
 intro e he;obtain ⟨hb,hh⟩:=hN e he;rw [QA _ hb,QA _ hh];exact hK e he
theorem uS{α:Type}[DecidableEq α]:∀ {l m:List α},l.Nodup->(∀ x ∈ l,x ∈ m)->l.length<=m.length
 |[],_,_,_=>Nat.zero_le _
 |a :: l,m,hn,h=>by
  obtain ⟨h1,h2⟩:=List.nodup_cons.1 hn;have ha:=h a List.mem_cons_self;have:=uS (m:=m.erase a) h2 fun x hx=>(List.mem_erase_of_ne (fun e=>h1 (by rw [<- e];exact hx))).2 (h x (List.mem_cons_of_mem _ hx));rw [List.length_erase_of_mem ha] at this;have:0<m.length:=List.length_pos_of_mem ha;simp only [List.length_cons];omega
theorem low{E:List Edge}{N:List Nm}(hN:∀ e ∈ E,e.b ∈ N/\e.h ∈ N)(hw:∀ e ∈ E,e.w<=1){K:Nat}(hK:ef E (iter E K)){v:Nm}(hv:v ∈ N):iter E K v<N.length:=by
 have hit:∀ t,t<=iter E K v->∃ u ∈ N,iter E K u=t:=by
  intro t ht;by_cases hex:∃ u ∈ N,iter E K u=t
  ·exact hex
  ·exfalso;have hne:∀ u ∈ N,iter E K u≠t:=fun u hu h=>hex ⟨u,hu,h⟩
   let U:Lv:=fun u=>if u ∈ N/\t<iter E K u then iter E K u-1 else iter E K u
   have hU:ef E U:=fun e he=>by
    obtain ⟨hb,hh⟩:=hN e he;have jL:=hK e he;have h1:=hw e he;have h2:=hne _ hb;have h3:=hne _ hh;show (if e.b ∈ N/\t<iter E K e.b then iter E K e.b-1 else iter E K e.b)+e.w<=(if e.h ∈ N/\t<iter E K e.h then iter E K e.h-1 else iter E K e.h);by_cases q1:t<iter E K e.h
    ·rw [if_pos (show e.h ∈ N/\t<iter E K e.h from ⟨hh,q1⟩)];by_cases q2:t<iter E K e.b
     ·rw [if_pos (show e.b ∈ N/\t<iter E K e.b from ⟨hb,q2⟩)];omega
     ·rw [if_neg (show ¬ (e.b ∈ N/\t<iter E K e.b) from fun h=>q2 h.2)];omega
    ·rw [if_neg (show ¬ (e.h ∈ N/\t<iter E K e.h) from fun h=>q1 h.2)];split<;>omega
   have:=vF hU K v;have hlt:t<iter E K v:=by have:=hne v hv;omega
   have h4:U v=iter E K v-1:=if_pos ⟨hv,hlt⟩;omega
 have:=uS (l:=List.range (iter E K v+1)) (m:=N.map (iter E K)) List.nodup_range fun t ht=>by
  obtain ⟨u,hu,h⟩:=hit t (by have:=List.mem_range.1 ht;omega);exact List.mem_map.2 ⟨u,hu,h⟩
 rw [List.length_range,List.length_map] at this;omega
structure RS (L0 L:Lv) (Ep:List Edge) (ch:Bool):Prop where
 eq:L=Ep.foldl jH L0
 no:ch=false->L=L0/\ef Ep L0
 yes:ch=true->¬ ef Ep L0
theorem RS.nil(L0:Lv):RS L0 L0 [] false:=⟨rfl,fun _=>⟨rfl,fun e he=>by cases he⟩,fun h=>by cases h⟩
theorem xP{Ep:List Edge}{e:Edge}{L:Lv}:ef (Ep++[e]) L↔ef Ep L/\L e.b+e.w<=L e.h:=by
 unfold ef;constructor
 ·exact fun h=>⟨fun f hf=>h f (List.mem_append_left _ hf),h e (by simp)⟩
 ·rintro ⟨h1,h2⟩ f hf;rcases List.mem_append.1 hf with hf|hf
  ·exact h1 f hf
  ·rw [List.mem_singleton] at hf;subst hf;exact h2
theorem RS.up{L0 L:Lv}{Ep:List Edge}{ch:Bool}(r:RS L0 L Ep ch){e:Edge}(h:L e.h<L e.b+e.w):RS L0 (jH L e) (Ep++[e]) true:=by
 refine ⟨by rw [List.foldl_append,<- r.eq];rfl,fun h=>(by cases h),fun _ hs=>?_⟩;obtain ⟨h1,h2⟩:=xP.1 hs
 cases ch with
 |false=>rw [(r.no rfl).1] at h;omega
 |true=>exact r.yes rfl h1
theorem RS.same{L0 L:Lv}{Ep:List Edge}{ch:Bool}(r:RS L0 L Ep ch){e:Edge}(h:¬ L e.h<L e.b+e.w):RS L0 L (Ep++[e]) ch:=by
 refine ⟨by rw [List.foldl_append,<- r.eq];exact (GC (by omega)).symm,fun hc=>?_,fun hc hs=>r.yes hc (xP.1 hs).1⟩;obtain ⟨h1,h2⟩:=r.no hc;exact ⟨h1,xP.2 ⟨h2,by rw [h1] at h;omega⟩⟩
theorem RS.done{E:List Edge}{L0 L:Lv}{ch:Bool}(r:RS L0 L E ch):L=round E L0/\ch = !decide (ef E L0):=by
 refine ⟨r.eq,?_⟩
 cases ch with
 |false=>rw [decide_eq_true (r.no rfl).2];rfl
 |true=>rw [decide_eq_false (r.yes rfl)];rfl
theorem xQ{L:Lv}{e:Edge}{N:Nat}(h:∀ x,L x<=N)(hw:e.w<=1)(x:Nm):jH L e x<=N+1:=by
 unfold jH;have h1:=h e.b;have h2:=h x;split
 ·simp only;split<;>omega
 ·omega
theorem high{E:List Edge}{N:List Nm}(hN:∀ e ∈ E,e.b ∈ N/\e.h ∈ N)(hw:∀ e ∈ E,e.w<=1){k:Nat}{E1 E2:List Edge}(hE:E=E1++E2){v:Nm}(hv:v ∈ N)(h:N.length<E1.foldl jH (iter E k) v)(j:Nat):¬ ef E (iter E j):=fun hj=>by
 have h2:=low hN hw hj hv;have h3:E1.foldl jH (iter E k) v<=iter E j v:=Gi (vF hj k) (fun e he=>hj e (by rw [hE];exact List.mem_append_left _ he)) v;omega
theorem Dc{f:Nm->Nat}{B:Nat}:∀ ns:List Nm,(∀ s ∈ ns,f s<=B)->(ns.map f).sum<=ns.length*B
 |[],_=>Nat.zero_le _
 |s :: ns,h=>by
  have h1:=Dc ns fun t ht=>h t (List.mem_cons_of_mem _ ht);have h2:=h s List.mem_cons_self;rw [List.map_cons,List.sum_cons,List.length_cons,Nat.succ_mul];omega
theorem Nw{f g:Nm->Nat}(h:∀ s,f s<=g s):∀ ns:List Nm,(ns.map f).sum<=(ns.map g).sum
 |[]=>Nat.le_refl _
 |s :: ns=>by
  have h1:=Nw h ns;have h2:=h s;rw [List.map_cons,List.sum_cons,List.map_cons,List.sum_cons];omega
theorem QB{f g:Nm->Nat}(h:∀ s,f s<=g s){t:Nm}(ht:f t<g t):∀ {ns:List Nm},t ∈ ns->(ns.map f).sum<(ns.map g).sum
 |s :: ns,hm=>by
  rw [List.map_cons,List.sum_cons,List.map_cons,List.sum_cons];rcases List.mem_cons.1 hm with rfl|hm
  ·have:=Nw h ns;omega
  ·have:=QB h ht hm;have:=h s;omega
theorem T8{E:List Edge}{N:List Nm}(hN:∀ e ∈ E,e.b ∈ N/\e.h ∈ N){L:Lv}(h:¬ ef E L):(N.map L).sum<(N.map (round E L)).sum:=by
 have:∃ e ∈ E,¬ L e.b+e.w<=L e.h:=by
  unfold ef at h;exact Classical.byContradiction fun hn=>h fun e he=>Classical.byContradiction fun hb=>hn ⟨e,he,hb⟩
 obtain ⟨e,he,hb⟩:=this;exact QB (g:=round E L) (fun s=>Gh E L s) (t:=e.h) (by have:=A8 (L:=L) he;omega) (hN e he).2
end Go.AM.fJ