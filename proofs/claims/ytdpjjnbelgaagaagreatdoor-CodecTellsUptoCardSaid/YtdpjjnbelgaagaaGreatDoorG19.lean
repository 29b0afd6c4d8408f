/- The document's Copy of a package. Conditions: as each theorem names them. -/
import Derived.Test.YtdpjjnbelgaagaaGreatDoorG18
import Derived.Test.YtdpjjnbelgaagaaGreatDoorG06
import Derived.Test.YtdpjjnbelgaagaaGreatDoorG12
import Derived.Deep.QuietTactic
import Derived.BigQuiet
import Derived.Test.YtdpjjnbelgaagaaGreatDoorG09
namespace Go.Proofs.YtdpjjnbelgaagaaGreatDoor
set_option maxHeartbeats 32000000
open Go.ChangeShapes Go.WideShapes Go.ChangeAt Go.RowKit Go.Deep
set_option maxRecDepth 100000
theorem LIn.bel {α:Type} {K:Kd α} {N:Nat} {w w':World} {l:List α} {v:Value} (h:LIn K (Am N) w l v) (hb:Below w.heap.size w w'):LIn K (Am N) w' l v:=
 h.keep hb.size fun b ⟨k1,k2⟩ hlt=>⟨hb.block b hlt,k1,fun i=>(World.frozen?_of_block (w:=w) (hb.block b hlt)).trans (k2 i)⟩
theorem Ah.belN {N:Nat} {w w':World} {p:Aq} {r:AE} (h:Ah (Am N) w p r) (hb:Below w.heap.size w w'):Ah (Am N) w' p r:=
 h.keep hb.size fun b ⟨k1,k2⟩ hlt=>⟨hb.block b hlt,k1,fun i=>(World.frozen?_of_block (w:=w) (hb.block b hlt)).trans (k2 i)⟩
structure Aq.small (p:Aq):Prop where
 prov:p.prov.length≤1048576
 req:(Ab p.req).length≤1048576
 creq:∀x∈Ab p.req,x.count≤1048576
 con:(Ab p.con).length≤1048576
 ccon:∀x∈Ab p.con,x.count≤1048576
 obs:p.obs.length≤1048576
 reco:(Ab p.reco).length≤1048576
 creco:∀x∈Ab p.reco,x.count≤1048576
 sup:(Ab p.sup).length≤1048576
 csup:∀x∈Ab p.sup,x.count≤1048576
 sug:(Ab p.sug).length≤1048576
 csug:∀x∈Ab p.sug,x.count≤1048576
 enh:(Ab p.enh).length≤1048576
 cenh:∀x∈Ab p.enh,x.count≤1048576
 files:p.files.length≤1048576
structure AE.forms (r:AE):Prop where
 prov:∃a n c,r.prov= .slice a n c
 req:∃a n c,r.req= .slice a n c
 con:∃a n c,r.con= .slice a n c
 obs:∃a n c,r.obs= .slice a n c
 reco:∃a n c,r.reco= .slice a n c
 sup:∃a n c,r.sup= .slice a n c
 sug:∃a n c,r.sug= .slice a n c
 enh:∃a n c,r.enh= .slice a n c
 files:∃a n c,r.files= .slice a n c
theorem EK {v:Value} {n:Nat} (h:∃a c,v= .slice a n c):∃a m c,v= .slice a m c:=let ⟨a,c,e⟩:=h;⟨a,n,c,e⟩
theorem Qd:∃i,Tryz.prog.info? 32=some i∧i.zero=some (.agg #[.string ⟨#[]⟩,.int .u8 0,.int .i64 0,.string ⟨#[]⟩,.string ⟨#[]⟩])∧i.size=5∧i.bytes=64:=
 info_parts (P:=Tryz.prog) (e:=32) (z:= .agg #[.string ⟨#[]⟩,.int .u8 0,.int .i64 0,.string ⟨#[]⟩,.string ⟨#[]⟩]) (size:=5) (bytes:=64) (by kernel_rfl)
theorem QX:∃i,Tryz.prog.info? 9=some i∧i.zero=some (.string ⟨#[]⟩)∧i.size=1∧i.bytes=16:=
 info_parts (P:=Tryz.prog) (e:=9) (z:= .string ⟨#[]⟩) (size:=1) (bytes:=16) (by kernel_rfl)
theorem EG {N:Nat} {w w0:World} {l:List Ax} {v:Value} {ps:List (Ax×AW.R)} (hf:ps.map Prod.fst=l) (hh:∀q∈ps,AW.holds Ai w0 q.1 q.2) (hO:Own w 32 5 v l.length (enL AW ps)) (hv:∀k,v.ownBlock=some k→N≤k) (hn:l.length≤4611686018427387904):LIn AW (Am N) w l v:=
 (show Acc AW 32 N w l v from⟨ps,hf,hO,hv,fun q hq=>hh q hq⟩).done hn (by decide)
theorem Jo {N:Nat} {w w0:World} {l:List ByteArray} {v:Value} {ps:List (ByteArray×A2.R)} (hf:ps.map Prod.fst=l) (hh:∀q∈ps,A2.holds Ai w0 q.1 q.2) (hO:Own w 9 1 v l.length (enL A2 ps)) (hv:∀k,v.ownBlock=some k→N≤k) (hn:l.length≤4611686018427387904):LIn A2 (Am N) w l v:=
 (show Acc A2 9 N w l v from⟨ps,hf,hO,hv,fun q hq=>hh q hq⟩).done hn (by decide)
section
variable {o:Oper} {a:Act} {w:World} {K:Act→World→Prop} {Q:Exit→Act→World→Prop}
theorem Oh (t g:Nat) (ho:o.op= .fieldAddr 29 (.tmp t) 0) (hx:a.eval (.tmp t)= .pointer (some ⟨g,0,none⟩)) (h:K (a.put o.dst (.pointer (some ⟨g,0,none⟩))) w):o.wp Tryz.prog a w K Q:=by
 unfold Oper.wp execOp
 simp only[ho,hx]
 go_simp
 exact h
theorem Og (t g:Nat) (ho:o.op= .fieldAddr 29 (.tmp t) 1) (hx:a.eval (.tmp t)= .pointer (some ⟨g,0,none⟩)) (h:K (a.put o.dst (.pointer (some ⟨g,1,none⟩))) w):o.wp Tryz.prog a w K Q:=by
 unfold Oper.wp execOp
 simp only[ho,hx]
 go_simp
 exact h
theorem Of (t g:Nat) (ho:o.op= .fieldAddr 29 (.tmp t) 2) (hx:a.eval (.tmp t)= .pointer (some ⟨g,0,none⟩)) (h:K (a.put o.dst (.pointer (some ⟨g,4,none⟩))) w):o.wp Tryz.prog a w K Q:=by
 unfold Oper.wp execOp
 simp only[ho,hx]
 go_simp
 exact h
theorem Oe (t g:Nat) (ho:o.op= .fieldAddr 29 (.tmp t) 3) (hx:a.eval (.tmp t)= .pointer (some ⟨g,0,none⟩)) (h:K (a.put o.dst (.pointer (some ⟨g,5,none⟩))) w):o.wp Tryz.prog a w K Q:=by
 unfold Oper.wp execOp
 simp only[ho,hx]
 go_simp
 exact h
theorem IP (t g:Nat) (ho:o.op= .fieldAddr 29 (.tmp t) 4) (hx:a.eval (.tmp t)= .pointer (some ⟨g,0,none⟩)) (h:K (a.put o.dst (.pointer (some ⟨g,6,none⟩))) w):o.wp Tryz.prog a w K Q:=by
 unfold Oper.wp execOp
 simp only[ho,hx]
 go_simp
 exact h
theorem Od (t g:Nat) (ho:o.op= .fieldAddr 29 (.tmp t) 5) (hx:a.eval (.tmp t)= .pointer (some ⟨g,0,none⟩)) (h:K (a.put o.dst (.pointer (some ⟨g,7,none⟩))) w):o.wp Tryz.prog a w K Q:=by
 unfold Oper.wp execOp
 simp only[ho,hx]
 go_simp
 exact h
theorem Oc (t g:Nat) (ho:o.op= .fieldAddr 29 (.tmp t) 6) (hx:a.eval (.tmp t)= .pointer (some ⟨g,0,none⟩)) (h:K (a.put o.dst (.pointer (some ⟨g,8,none⟩))) w):o.wp Tryz.prog a w K Q:=by
 unfold Oper.wp execOp
 simp only[ho,hx]
 go_simp
 exact h
theorem IN (t g:Nat) (ho:o.op= .fieldAddr 29 (.tmp t) 7) (hx:a.eval (.tmp t)= .pointer (some ⟨g,0,none⟩)) (h:K (a.put o.dst (.pointer (some ⟨g,9,none⟩))) w):o.wp Tryz.prog a w K Q:=by
 unfold Oper.wp execOp
 simp only[ho,hx]
 go_simp
 exact h
theorem Ob (t g:Nat) (ho:o.op= .fieldAddr 29 (.tmp t) 8) (hx:a.eval (.tmp t)= .pointer (some ⟨g,0,none⟩)) (h:K (a.put o.dst (.pointer (some ⟨g,10,none⟩))) w):o.wp Tryz.prog a w K Q:=by
 unfold Oper.wp execOp
 simp only[ho,hx]
 go_simp
 exact h
theorem Oa (t g:Nat) (ho:o.op= .fieldAddr 29 (.tmp t) 9) (hx:a.eval (.tmp t)= .pointer (some ⟨g,0,none⟩)) (h:K (a.put o.dst (.pointer (some ⟨g,11,none⟩))) w):o.wp Tryz.prog a w K Q:=by
 unfold Oper.wp execOp
 simp only[ho,hx]
 go_simp
 exact h
theorem LP (t g:Nat) (ho:o.op= .fieldAddr 29 (.tmp t) 10) (hx:a.eval (.tmp t)= .pointer (some ⟨g,0,none⟩)) (h:K (a.put o.dst (.pointer (some ⟨g,12,none⟩))) w):o.wp Tryz.prog a w K Q:=by
 unfold Oper.wp execOp
 simp only[ho,hx]
 go_simp
 exact h
theorem LO (t g:Nat) (ho:o.op= .fieldAddr 29 (.tmp t) 11) (hx:a.eval (.tmp t)= .pointer (some ⟨g,0,none⟩)) (h:K (a.put o.dst (.pointer (some ⟨g,13,none⟩))) w):o.wp Tryz.prog a w K Q:=by
 unfold Oper.wp execOp
 simp only[ho,hx]
 go_simp
 exact h
theorem FV (t g:Nat) (ho:o.op= .fieldAddr 29 (.tmp t) 12) (hx:a.eval (.tmp t)= .pointer (some ⟨g,0,none⟩)) (h:K (a.put o.dst (.pointer (some ⟨g,14,none⟩))) w):o.wp Tryz.prog a w K Q:=by
 unfold Oper.wp execOp
 simp only[ho,hx]
 go_simp
 exact h
theorem FU (t g k:Nat) (x:ByteArray) (ho:o.op= .load 9 (.tmp t)) (hx:a.eval (.tmp t)= .pointer (some ⟨g,k,none⟩)) (hc:w.cell? ⟨g,k,none⟩=some (.string x)) (h:K (a.put o.dst (.string x)) w):o.wp Tryz.prog a w K Q:=by
 unfold Oper.wp execOp
 simp only[ho,hx]
 go_simp
 exact h
theorem N9 (t g k:Nat) (x:Int) (ho:o.op= .load 5 (.tmp t)) (hx:a.eval (.tmp t)= .pointer (some ⟨g,k,none⟩)) (hc:w.cell? ⟨g,k,none⟩=some (.int .u8 x)) (h:K (a.put o.dst (.int .u8 x)) w):o.wp Tryz.prog a w K Q:=by
 unfold Oper.wp execOp
 simp only[ho,hx]
 go_simp
 exact h
theorem LQ (t g:Nat) (ep:Int) (u v:ByteArray) (ho:o.op= .load 24 (.tmp t)) (hx:a.eval (.tmp t)= .pointer (some ⟨g,1,none⟩)) (h0:w.cell? ⟨g,1,none⟩=some (.int .i64 ep)) (h1:w.cell? ⟨g,2,none⟩=some (.string u)) (h2:w.cell? ⟨g,3,none⟩=some (.string v)) (h:K (a.put o.dst (.agg #[.int .i64 ep,.string u,.string v])) w):o.wp Tryz.prog a w K Q:=by
 unfold Oper.wp execOp
 simp only[ho,hx]
 go_simp
 exact h
theorem D6 (t g k:Nat) (v:Value) (aa:Option Addr) (n c:Nat) (hv:v= .slice aa n c) (ho:o.op= .load 25 (.tmp t)) (hx:a.eval (.tmp t)= .pointer (some ⟨g,k,none⟩)) (hc:w.cell? ⟨g,k,none⟩=some v) (h:K (a.put o.dst v) w):o.wp Tryz.prog a w K Q:=by
 subst hv
 unfold Oper.wp execOp
 simp only[ho,hx]
 go_simp
 exact h
theorem IM (t g k:Nat) (v:Value) (aa:Option Addr) (n c:Nat) (hv:v= .slice aa n c) (ho:o.op= .load 27 (.tmp t)) (hx:a.eval (.tmp t)= .pointer (some ⟨g,k,none⟩)) (hc:w.cell? ⟨g,k,none⟩=some v) (h:K (a.put o.dst v) w):o.wp Tryz.prog a w K Q:=by
 subst hv
 unfold Oper.wp execOp
 simp only[ho,hx]
 go_simp
 exact h
theorem B0 (t g k:Nat) (v:Value) (aa:Option Addr) (n c:Nat) (hv:v= .slice aa n c) (ho:o.op= .load 26 (.tmp t)) (hx:a.eval (.tmp t)= .pointer (some ⟨g,k,none⟩)) (hc:w.cell? ⟨g,k,none⟩=some v) (h:K (a.put o.dst v) w):o.wp Tryz.prog a w K Q:=by
 subst hv
 unfold Oper.wp execOp
 simp only[ho,hx]
 go_simp
 exact h
theorem GH (ho:o.op= .buildSlice 25 0 #[]) (h:K (a.put o.dst (.slice (some ⟨w.heap.size,0,none⟩) 0 0)) (w.alloc (.cells #[] 32))):o.wp Tryz.prog a w K Q:=by
 unfold Oper.wp execOp
 simp only[ho]
 go_simp
 exact h
theorem KS (ho:o.op= .buildSlice 27 0 #[]) (h:K (a.put o.dst (.slice (some ⟨w.heap.size,0,none⟩) 0 0)) (w.alloc (.cells #[] 9))):o.wp Tryz.prog a w K Q:=by
 unfold Oper.wp execOp
 simp only[ho]
 go_simp
 exact h
theorem CJ (t:Nat) (v:Value) (ho:o.op= .call {callee:= .value (.func 87),args:= #[.tmp t],argTypes:= #[26]}) (hx:a.eval (.tmp t)=v) (hc:Calls Tryz.prog 87 #[v] w fun e w'=>∃u,e= .returned u∧K (a.put o.dst u) w'):o.wp Tryz.prog a w K Q:=by
 unfold Oper.wp execOp
 simp only[ho,resolve,Sem.run_bind,List.map_toArray,List.map_cons,List.map_nil,hx]
 go_simp
 refine hc.mono ?_
 rintro e w' ⟨u,rfl,hk⟩
 exact hk
end
def ok9 (g:Nat) (p:Aq) (r:AE) (N:Nat) (w:World):Nat→Value→Prop
 |0,v=>v= .pointer (some ⟨g,0,none⟩)
 |1,v=>v= .string p.name
 |2,v=>v= .pointer (some ⟨g,1,none⟩)
 |3,v=>v= .agg #[.int .i64 p.ep,.string p.ver,.string p.rel]
 |4,v=>v= .pointer (some ⟨g,4,none⟩)
 |5,v=>v= .int .u8 p.arch
 |6,v=>v= .pointer (some ⟨g,5,none⟩)
 |7,v=>v= .string p.vendor
 |8,v=>∃ge,v= .slice (some ⟨ge,0,none⟩) 0 0∧Blk w ge 32 #[]∧N≤ge
 |9,v=>v= .pointer (some ⟨g,6,none⟩)
 |10,v=>v=r.prov
 |11,v=>LIn AW (Am N) w p.prov v
 |12,v=>v= .pointer (some ⟨g,7,none⟩)
 |13,v=>v=r.req
 |14,v=>LIn Aj (Am N) w (Ab p.req) v
 |15,v=>v= .pointer (some ⟨g,8,none⟩)
 |16,v=>v=r.con
 |17,v=>LIn Aj (Am N) w (Ab p.con) v
 |18,v=>∃ge,v= .slice (some ⟨ge,0,none⟩) 0 0∧Blk w ge 32 #[]∧N≤ge
 |19,v=>v= .pointer (some ⟨g,9,none⟩)
 |20,v=>v=r.obs
 |21,v=>LIn AW (Am N) w p.obs v
 |22,v=>v= .pointer (some ⟨g,10,none⟩)
 |23,v=>v=r.reco
 |24,v=>LIn Aj (Am N) w (Ab p.reco) v
 |25,v=>v= .pointer (some ⟨g,11,none⟩)
 |26,v=>v=r.sup
 |27,v=>LIn Aj (Am N) w (Ab p.sup) v
 |28,v=>v= .pointer (some ⟨g,12,none⟩)
 |29,v=>v=r.sug
 |30,v=>LIn Aj (Am N) w (Ab p.sug) v
 |31,v=>v= .pointer (some ⟨g,13,none⟩)
 |32,v=>v=r.enh
 |33,v=>LIn Aj (Am N) w (Ab p.enh) v
 |34,v=>∃ge,v= .slice (some ⟨ge,0,none⟩) 0 0∧Blk w ge 9 #[]∧N≤ge
 |35,v=>v= .pointer (some ⟨g,14,none⟩)
 |36,v=>v=r.files
 |37,v=>LIn A2 (Am N) w p.files v
 |38,v=>∃r':AE,v=p.val r'∧Ah (Am N) w p r'
 |_,_=>True
theorem ND {g:Nat} {p:Aq} {r:AE} {N:Nat} {w w':World} (hb:Below w.heap.size w w'):∀{i:Nat} {v:Value},ok9 g p r N w i v→ok9 g p r N w' i v
 |0,_,h=>h
 |1,_,h=>h
 |2,_,h=>h
 |3,_,h=>h
 |4,_,h=>h
 |5,_,h=>h
 |6,_,h=>h
 |7,_,h=>h
 |8,_,⟨ge,e,k,j⟩=>⟨ge,e,k.bel' hb,j⟩
 |9,_,h=>h
 |10,_,h=>h
 |11,_,h=>LIn.bel h hb
 |12,_,h=>h
 |13,_,h=>h
 |14,_,h=>LIn.bel h hb
 |15,_,h=>h
 |16,_,h=>h
 |17,_,h=>LIn.bel h hb
 |18,_,⟨ge,e,k,j⟩=>⟨ge,e,k.bel' hb,j⟩
 |19,_,h=>h
 |20,_,h=>h
 |21,_,h=>LIn.bel h hb
 |22,_,h=>h
 |23,_,h=>h
 |24,_,h=>LIn.bel h hb
 |25,_,h=>h
 |26,_,h=>h
 |27,_,h=>LIn.bel h hb
 |28,_,h=>h
 |29,_,h=>h
 |30,_,h=>LIn.bel h hb
 |31,_,h=>h
 |32,_,h=>h
 |33,_,h=>LIn.bel h hb
 |34,_,⟨ge,e,k,j⟩=>⟨ge,e,k.bel' hb,j⟩
 |35,_,h=>h
 |36,_,h=>h
 |37,_,h=>LIn.bel h hb
 |38,_,⟨r',e,h⟩=>⟨r',e,Ah.belN h hb⟩
 |_+39,_,_=>trivial
abbrev QS:List Op:= [.fieldAddr 29 (.tmp 1) 0,.load 9 (.tmp 3),.fieldAddr 29 (.tmp 1) 1,.load 24 (.tmp 5),.fieldAddr 29 (.tmp 1) 2,.load 5 (.tmp 7),.fieldAddr 29 (.tmp 1) 3,.load 9 (.tmp 9),.buildSlice 25 0 #[],.fieldAddr 29 (.tmp 1) 4,.load 25 (.tmp 12),.call {callee:= .builtin .append,args:= #[.tmp 11,.tmp 13],argTypes:= #[25,25]},.fieldAddr 29 (.tmp 1) 5,.load 26 (.tmp 15),.call {callee:= .value (.func 87),args:= #[.tmp 16],argTypes:= #[26]},.fieldAddr 29 (.tmp 1) 6,.load 26 (.tmp 18),.call {callee:= .value (.func 87),args:= #[.tmp 19],argTypes:= #[26]},.buildSlice 25 0 #[],.fieldAddr 29 (.tmp 1) 7,.load 25 (.tmp 22),.call {callee:= .builtin .append,args:= #[.tmp 21,.tmp 23],argTypes:= #[25,25]},.fieldAddr 29 (.tmp 1) 8,.load 26 (.tmp 25),.call {callee:= .value (.func 87),args:= #[.tmp 26],argTypes:= #[26]},.fieldAddr 29 (.tmp 1) 9,.load 26 (.tmp 28),.call {callee:= .value (.func 87),args:= #[.tmp 29],argTypes:= #[26]},.fieldAddr 29 (.tmp 1) 10,.load 26 (.tmp 31),.call {callee:= .value (.func 87),args:= #[.tmp 32],argTypes:= #[26]},.fieldAddr 29 (.tmp 1) 11,.load 26 (.tmp 34),.call {callee:= .value (.func 87),args:= #[.tmp 35],argTypes:= #[26]},.buildSlice 27 0 #[],.fieldAddr 29 (.tmp 1) 12,.load 27 (.tmp 38),.call {callee:= .builtin .append,args:= #[.tmp 37,.tmp 39],argTypes:= #[27,27]},.build 29 #[(0,.tmp 4),(1,.tmp 6),(2,.tmp 8),(3,.tmp 10),(4,.tmp 14),(5,.tmp 17),(6,.tmp 20),(7,.tmp 24),(8,.tmp 27),(9,.tmp 30),(10,.tmp 33),(11,.tmp 36),(12,.tmp 40)],.store 29 (.tmp 2) (.tmp 41)]
abbrev Qf:List (List Nat):= [[],[0],[],[2],[],[4],[],[6],[],[],[9],[8,10],[],[12],[13],[],[15],[16],[],[],[19],[18,20],[],[22],[23],[],[25],[26],[],[28],[29],[],[31],[32],[],[],[35],[34,36],[1,3,5,7,11,14,17,21,24,27,30,33,37],[0,1,2,3,4,5,6,7,8,9,10,11,12,13,14,15,16,17,18,19,20,21,22,23,24,25,26,27,28,29,30,31,32,33,34,35,36,37,38]]
def Q7 (g:Nat) (p:Aq) (w0:World) (N:Nat) (_:List Value) (W:World):Prop:=∃r':AE,Blk W (g+1) 29 (pC p r')∧Ah (Am N) W p r'∧Below w0.heap.size w0 W
theorem Je {L:List Value} {w0 n0:World} {g:Nat} {p:Aq} {r:AE} {ops:Array Oper} {Q:Exit→Act→World→Prop} {id:Nat} (hL:L.length=42) (hsz:ops.size=40)
 (hL1:(L[1]?).getD undef= .pointer (some ⟨g,0,none⟩)) (hL2:(L[2]?).getD undef= .pointer (some ⟨g+1,0,none⟩))
 (hin:Ah Ai w0 p r) (hfm:r.forms) (hsm:p.small) (hw0:Below w0.heap.size w0 n0) (hg:w0.heap.size≤g∧g+1<n0.heap.size) (hb1:Blk n0 g 29 (pC p r)) (zc:Array Value) (hb2:Blk n0 (g+1) 29 zc) (hzc:zc.size=15)
 (hops:(ops.toList.map fun o=>(o.op,o.guard))=QS.map fun x=>(x,none)) (hdst:(ops.toList.map (·.dst))=((List.range 39).map fun i=>some (3+i))++ [none])
 (hdeps:((ops.toList.zip Qf).all fun x=>x.2.all fun d=>x.1.after.any fun e=>e.on==d && Region.binds .any e)=true)
 (hlow:(ops.toList.zipIdx.all fun x=>x.1.after.all fun e=>decide (e.on<x.2))=true)
 (hK:∀mid W,mid.length=39→Q7 g p w0 n0.heap.size mid W→Q .normal (frm (L.take 3) mid []) W):
 (Code.region id ops true).wp Tryz.prog Q {tmps:=L.toArray,defers:= []} n0:=by
 obtain⟨N,hN⟩:∃N,N=n0.heap.size:=⟨_,rfl⟩
 have hF1:∀mid,(frm (L.take 3) mid []).eval (.tmp 1)= .pointer (some ⟨g,0,none⟩):=fun mid=>(AI (by rw[List.length_take];omega)).trans (by rw[List.getElem?_take_of_lt (by omega)];exact hL1)
 have hF2:∀mid,(frm (L.take 3) mid []).eval (.tmp 2)= .pointer (some ⟨g+1,0,none⟩):=fun mid=>(AI (by rw[List.length_take];omega)).trans (by rw[List.getElem?_take_of_lt (by omega)];exact hL2)
 have hbx:∀w,Below n0.heap.size n0 w→Blk w g 29 (pC p r):=fun w h=>hb1.bel' h
 have hop_at:∀(i:Nat) (o:Oper) (x:Op),ops[i]?=some o→QS[i]?=some x→o.op=x∧o.guard=none:=fun i o x ho hx=>by
  have h4:=congrArg (fun l=>l[i]?) hops
  rw[List.getElem?_map,List.getElem?_map,Array.getElem?_toList,ho,hx]at h4
  exact Prod.mk.inj (Option.some.inj h4)
 rw[←hN]at hK
 refine L2 (ok:=ok9 g p r N) (Q7 g p w0 N) (fun hb h=>ND hb h) (n:=3) (K:=39) (M:=39) (by omega) (by omega) hsz Qf hdst hdeps rfl rfl hlow (fun i o mid w hi ho hm hb hdp=> ?_) (fun o mid w ho hm hb hall=> ?_) hK
 ·replace hF1:=hF1 mid
  have hbN:N≤w.heap.size:=hN▸hb.size
  have hcases:i=0∨i=1∨i=2∨i=3∨i=4∨i=5∨i=6∨i=7∨i=8∨i=9∨i=10∨i=11∨i=12∨i=13∨i=14∨i=15∨i=16∨i=17∨i=18∨i=19∨i=20∨i=21∨i=22∨i=23∨i=24∨i=25∨i=26∨i=27∨i=28∨i=29∨i=30∨i=31∨i=32∨i=33∨i=34∨i=35∨i=36∨i=37∨i=38:=by omega
  rcases hcases with rfl|rfl|rfl|rfl|rfl|rfl|rfl|rfl|rfl|rfl|rfl|rfl|rfl|rfl|rfl|rfl|rfl|rfl|rfl|rfl|rfl|rfl|rfl|rfl|rfl|rfl|rfl|rfl|rfl|rfl|rfl|rfl|rfl|rfl|rfl|rfl|rfl|rfl|rfl
  all_goals
   obtain⟨hop,hgd⟩:=hop_at _ _ _ ho rfl
   have hd:=hdp _ rfl
   clear hdp hop_at ho
  ·exact⟨Ad hgd,fun Kc hKc=>Oh 1 g hop hF1 (hKc _ _ rfl (Below.refl _ _))⟩
  ·exact⟨Ad hgd,fun Kc hKc=>FU 3 g 0 _ hop (hd 0 (by simp)) ((hbx w hb).cell 0) (hKc _ _ rfl (Below.refl _ _))⟩
  ·exact⟨Ad hgd,fun Kc hKc=>Og 1 g hop hF1 (hKc _ _ rfl (Below.refl _ _))⟩
  ·exact⟨Ad hgd,fun Kc hKc=>LQ 5 g _ _ _ hop (hd 2 (by simp)) ((hbx w hb).cell 1) ((hbx w hb).cell 2) ((hbx w hb).cell 3) (hKc _ _ rfl (Below.refl _ _))⟩
  ·exact⟨Ad hgd,fun Kc hKc=>Of 1 g hop hF1 (hKc _ _ rfl (Below.refl _ _))⟩
  ·exact⟨Ad hgd,fun Kc hKc=>N9 7 g 4 _ hop (hd 4 (by simp)) ((hbx w hb).cell 4) (hKc _ _ rfl (Below.refl _ _))⟩
  ·exact⟨Ad hgd,fun Kc hKc=>Oe 1 g hop hF1 (hKc _ _ rfl (Below.refl _ _))⟩
  ·exact⟨Ad hgd,fun Kc hKc=>FU 9 g 5 _ hop (hd 6 (by simp)) ((hbx w hb).cell 5) (hKc _ _ rfl (Below.refl _ _))⟩
  ·exact⟨Ad hgd,fun Kc hKc=>GH hop (hKc _ _ ⟨w.heap.size,rfl,Blk.new _ _ _,hbN⟩ (Ag _ _))⟩
  ·exact⟨Ad hgd,fun Kc hKc=>IP 1 g hop hF1 (hKc _ _ rfl (Below.refl _ _))⟩
  ·obtain⟨aa,nn,cc,hv⟩:=hfm.prov
   exact⟨Ad hgd,fun Kc hKc=>D6 12 g 6 _ aa nn cc hv hop (hd 9 (by simp)) ((hbx w hb).cell 6) (hKc _ _ rfl (Below.refl _ _))⟩
  ·obtain⟨ge,e1,e2,e3⟩:=hd 8 (by simp)
   have e4:=hd 10 (by simp)
   obtain⟨ii,hi1,hz0,hz1,hz2⟩:=Qd
   obtain⟨ps,q1,q2,q3⟩:=hin.prov.src (tx:=25) (t:=32) Tryz.underlying25 ()
   refine⟨Ad hgd,fun Kc hKc=>DJ (.tmp 11) (.tmp 13) _ _ hop 32 ii _ 5 64 Tryz.underlying25 hi1 hz0 hz1 hz2 rfl (by omega) ge e1 e2 _ _ _ e4 (q2 w (Aa hw0 hb)) (by have:=hsm.prov;simp only[maxLen];omega) (by have:=hsm.prov;omega) fun v' w' k1 k2 k3=>hKc v' w' (EG (N:=N) q1 (fun q hq=>q3 q hq) k1 (fun k hk=>by rcases k3 k hk with h|h<;>omega) (by have:=hsm.prov;omega)) k2⟩
  ·exact⟨Ad hgd,fun Kc hKc=>Od 1 g hop hF1 (hKc _ _ rfl (Below.refl _ _))⟩
  ·obtain⟨aa,nn,cc,hv⟩:=hfm.req
   exact⟨Ad hgd,fun Kc hKc=>B0 15 g 7 _ aa nn cc hv hop (hd 12 (by simp)) ((hbx w hb).cell 7) (hKc _ _ rfl (Below.refl _ _))⟩
  ·have e1:=hd 13 (by simp)
   refine⟨Ad hgd,fun Kc hKc=>CJ 16 _ hop e1 ((Cr (Ab p.req) r.req w (hin.req.below (Aa hw0 hb) fun _ _ _=>trivial) (fun x hx=>hsm.creq x hx) hsm.req).mono ?_)⟩
   rintro e w' ⟨v',rfl,k1,k2⟩
   exact⟨v',rfl,hKc v' w' (k1.keep (Nat.le_refl _) fun b ⟨j1,j2⟩ _=>⟨rfl,Nat.le_trans hbN j1,j2⟩) k2⟩
  ·exact⟨Ad hgd,fun Kc hKc=>Oc 1 g hop hF1 (hKc _ _ rfl (Below.refl _ _))⟩
  ·obtain⟨aa,nn,cc,hv⟩:=hfm.con
   exact⟨Ad hgd,fun Kc hKc=>B0 18 g 8 _ aa nn cc hv hop (hd 15 (by simp)) ((hbx w hb).cell 8) (hKc _ _ rfl (Below.refl _ _))⟩
  ·have e1:=hd 16 (by simp)
   refine⟨Ad hgd,fun Kc hKc=>CJ 19 _ hop e1 ((Cr (Ab p.con) r.con w (hin.con.below (Aa hw0 hb) fun _ _ _=>trivial) (fun x hx=>hsm.ccon x hx) hsm.con).mono ?_)⟩
   rintro e w' ⟨v',rfl,k1,k2⟩
   exact⟨v',rfl,hKc v' w' (k1.keep (Nat.le_refl _) fun b ⟨j1,j2⟩ _=>⟨rfl,Nat.le_trans hbN j1,j2⟩) k2⟩
  ·exact⟨Ad hgd,fun Kc hKc=>GH hop (hKc _ _ ⟨w.heap.size,rfl,Blk.new _ _ _,hbN⟩ (Ag _ _))⟩
  ·exact⟨Ad hgd,fun Kc hKc=>IN 1 g hop hF1 (hKc _ _ rfl (Below.refl _ _))⟩
  ·obtain⟨aa,nn,cc,hv⟩:=hfm.obs
   exact⟨Ad hgd,fun Kc hKc=>D6 22 g 9 _ aa nn cc hv hop (hd 19 (by simp)) ((hbx w hb).cell 9) (hKc _ _ rfl (Below.refl _ _))⟩
  ·obtain⟨ge,e1,e2,e3⟩:=hd 18 (by simp)
   have e4:=hd 20 (by simp)
   obtain⟨ii,hi1,hz0,hz1,hz2⟩:=Qd
   obtain⟨ps,q1,q2,q3⟩:=hin.obs.src (tx:=25) (t:=32) Tryz.underlying25 ()
   refine⟨Ad hgd,fun Kc hKc=>DJ (.tmp 21) (.tmp 23) _ _ hop 32 ii _ 5 64 Tryz.underlying25 hi1 hz0 hz1 hz2 rfl (by omega) ge e1 e2 _ _ _ e4 (q2 w (Aa hw0 hb)) (by have:=hsm.obs;simp only[maxLen];omega) (by have:=hsm.obs;omega) fun v' w' k1 k2 k3=>hKc v' w' (EG (N:=N) q1 (fun q hq=>q3 q hq) k1 (fun k hk=>by rcases k3 k hk with h|h<;>omega) (by have:=hsm.obs;omega)) k2⟩
  ·exact⟨Ad hgd,fun Kc hKc=>Ob 1 g hop hF1 (hKc _ _ rfl (Below.refl _ _))⟩
  ·obtain⟨aa,nn,cc,hv⟩:=hfm.reco
   exact⟨Ad hgd,fun Kc hKc=>B0 25 g 10 _ aa nn cc hv hop (hd 22 (by simp)) ((hbx w hb).cell 10) (hKc _ _ rfl (Below.refl _ _))⟩
  ·have e1:=hd 23 (by simp)
   refine⟨Ad hgd,fun Kc hKc=>CJ 26 _ hop e1 ((Cr (Ab p.reco) r.reco w (hin.reco.below (Aa hw0 hb) fun _ _ _=>trivial) (fun x hx=>hsm.creco x hx) hsm.reco).mono ?_)⟩
   rintro e w' ⟨v',rfl,k1,k2⟩
   exact⟨v',rfl,hKc v' w' (k1.keep (Nat.le_refl _) fun b ⟨j1,j2⟩ _=>⟨rfl,Nat.le_trans hbN j1,j2⟩) k2⟩
  ·exact⟨Ad hgd,fun Kc hKc=>Oa 1 g hop hF1 (hKc _ _ rfl (Below.refl _ _))⟩
  ·obtain⟨aa,nn,cc,hv⟩:=hfm.sup
   exact⟨Ad hgd,fun Kc hKc=>B0 28 g 11 _ aa nn cc hv hop (hd 25 (by simp)) ((hbx w hb).cell 11) (hKc _ _ rfl (Below.refl _ _))⟩
  ·have e1:=hd 26 (by simp)
   refine⟨Ad hgd,fun Kc hKc=>CJ 29 _ hop e1 ((Cr (Ab p.sup) r.sup w (hin.sup.below (Aa hw0 hb) fun _ _ _=>trivial) (fun x hx=>hsm.csup x hx) hsm.sup).mono ?_)⟩
   rintro e w' ⟨v',rfl,k1,k2⟩
   exact⟨v',rfl,hKc v' w' (k1.keep (Nat.le_refl _) fun b ⟨j1,j2⟩ _=>⟨rfl,Nat.le_trans hbN j1,j2⟩) k2⟩
  ·exact⟨Ad hgd,fun Kc hKc=>LP 1 g hop hF1 (hKc _ _ rfl (Below.refl _ _))⟩
  ·obtain⟨aa,nn,cc,hv⟩:=hfm.sug
   exact⟨Ad hgd,fun Kc hKc=>B0 31 g 12 _ aa nn cc hv hop (hd 28 (by simp)) ((hbx w hb).cell 12) (hKc _ _ rfl (Below.refl _ _))⟩
  ·have e1:=hd 29 (by simp)
   refine⟨Ad hgd,fun Kc hKc=>CJ 32 _ hop e1 ((Cr (Ab p.sug) r.sug w (hin.sug.below (Aa hw0 hb) fun _ _ _=>trivial) (fun x hx=>hsm.csug x hx) hsm.sug).mono ?_)⟩
   rintro e w' ⟨v',rfl,k1,k2⟩
   exact⟨v',rfl,hKc v' w' (k1.keep (Nat.le_refl _) fun b ⟨j1,j2⟩ _=>⟨rfl,Nat.le_trans hbN j1,j2⟩) k2⟩
  ·exact⟨Ad hgd,fun Kc hKc=>LO 1 g hop hF1 (hKc _ _ rfl (Below.refl _ _))⟩
  ·obtain⟨aa,nn,cc,hv⟩:=hfm.enh
   exact⟨Ad hgd,fun Kc hKc=>B0 34 g 13 _ aa nn cc hv hop (hd 31 (by simp)) ((hbx w hb).cell 13) (hKc _ _ rfl (Below.refl _ _))⟩
  ·have e1:=hd 32 (by simp)
   refine⟨Ad hgd,fun Kc hKc=>CJ 35 _ hop e1 ((Cr (Ab p.enh) r.enh w (hin.enh.below (Aa hw0 hb) fun _ _ _=>trivial) (fun x hx=>hsm.cenh x hx) hsm.enh).mono ?_)⟩
   rintro e w' ⟨v',rfl,k1,k2⟩
   exact⟨v',rfl,hKc v' w' (k1.keep (Nat.le_refl _) fun b ⟨j1,j2⟩ _=>⟨rfl,Nat.le_trans hbN j1,j2⟩) k2⟩
  ·exact⟨Ad hgd,fun Kc hKc=>KS hop (hKc _ _ ⟨w.heap.size,rfl,Blk.new _ _ _,hbN⟩ (Ag _ _))⟩
  ·exact⟨Ad hgd,fun Kc hKc=>FV 1 g hop hF1 (hKc _ _ rfl (Below.refl _ _))⟩
  ·obtain⟨aa,nn,cc,hv⟩:=hfm.files
   exact⟨Ad hgd,fun Kc hKc=>IM 38 g 14 _ aa nn cc hv hop (hd 35 (by simp)) ((hbx w hb).cell 14) (hKc _ _ rfl (Below.refl _ _))⟩
  ·obtain⟨ge,e1,e2,e3⟩:=hd 34 (by simp)
   have e4:=hd 36 (by simp)
   obtain⟨ii,hi1,hz0,hz1,hz2⟩:=QX
   obtain⟨ps,q1,q2,q3⟩:=hin.files.src (tx:=27) (t:=9) Tryz.underlying27 ()
   refine⟨Ad hgd,fun Kc hKc=>DJ (.tmp 37) (.tmp 39) _ _ hop 9 ii _ 1 16 Tryz.underlying27 hi1 hz0 hz1 hz2 rfl (by omega) ge e1 e2 _ _ _ e4 (q2 w (Aa hw0 hb)) (by have:=hsm.files;simp only[maxLen];omega) (by have:=hsm.files;omega) fun v' w' k1 k2 k3=>hKc v' w' (Jo (N:=N) q1 (fun q hq=>q3 q hq) k1 (fun k hk=>by rcases k3 k hk with h|h<;>omega) (by have:=hsm.files;omega)) k2⟩
  ·have z1:=hd 1 (by simp)
   have z3:=hd 3 (by simp)
   have z5:=hd 5 (by simp)
   have z7:=hd 7 (by simp)
   have z11:=hd 11 (by simp)
   have z14:=hd 14 (by simp)
   have z17:=hd 17 (by simp)
   have z21:=hd 21 (by simp)
   have z24:=hd 24 (by simp)
   have z27:=hd 27 (by simp)
   have z30:=hd 30 (by simp)
   have z33:=hd 33 (by simp)
   have z37:=hd 37 (by simp)
   generalize hy11:(frm (L.take 3) mid []).eval (.tmp (3+11))=y11 at z11
   generalize hy14:(frm (L.take 3) mid []).eval (.tmp (3+14))=y14 at z14
   generalize hy17:(frm (L.take 3) mid []).eval (.tmp (3+17))=y17 at z17
   generalize hy21:(frm (L.take 3) mid []).eval (.tmp (3+21))=y21 at z21
   generalize hy24:(frm (L.take 3) mid []).eval (.tmp (3+24))=y24 at z24
   generalize hy27:(frm (L.take 3) mid []).eval (.tmp (3+27))=y27 at z27
   generalize hy30:(frm (L.take 3) mid []).eval (.tmp (3+30))=y30 at z30
   generalize hy33:(frm (L.take 3) mid []).eval (.tmp (3+33))=y33 at z33
   generalize hy37:(frm (L.take 3) mid []).eval (.tmp (3+37))=y37 at z37
   obtain⟨a11,m11,c11,k11⟩:=EK z11.form
   subst k11
   obtain⟨a14,m14,c14,k14⟩:=EK z14.form
   subst k14
   obtain⟨a17,m17,c17,k17⟩:=EK z17.form
   subst k17
   obtain⟨a21,m21,c21,k21⟩:=EK z21.form
   subst k21
   obtain⟨a24,m24,c24,k24⟩:=EK z24.form
   subst k24
   obtain⟨a27,m27,c27,k27⟩:=EK z27.form
   subst k27
   obtain⟨a30,m30,c30,k30⟩:=EK z30.form
   subst k30
   obtain⟨a33,m33,c33,k33⟩:=EK z33.form
   subst k33
   obtain⟨a37,m37,c37,k37⟩:=EK z37.form
   subst k37
   refine⟨Ad hgd,fun Kc hKc=>MS hop [(0,.string p.name),(1,.agg #[.int .i64 p.ep,.string p.ver,.string p.rel]),(2,.int .u8 p.arch),(3,.string p.vendor),(4,.slice a11 m11 c11),(5,.slice a14 m14 c14),(6,.slice a17 m17 c17),(7,.slice a21 m21 c21),(8,.slice a24 m24 c24),(9,.slice a27 m27 c27),(10,.slice a30 m30 c30),(11,.slice a33 m33 c33),(12,.slice a37 m37 c37)] ?_ (pC p ⟨.slice a11 m11 c11,.slice a14 m14 c14,.slice a17 m17 c17,.slice a21 m21 c21,.slice a24 m24 c24,.slice a27 m27 c27,.slice a30 m30 c30,.slice a33 m33 c33,.slice a37 m37 c37⟩) (by kernel_rfl) (hKc _ _ ⟨⟨.slice a11 m11 c11,.slice a14 m14 c14,.slice a17 m17 c17,.slice a21 m21 c21,.slice a24 m24 c24,.slice a27 m27 c27,.slice a30 m30 c30,.slice a33 m33 c33,.slice a37 m37 c37⟩,rfl,⟨hin.s1,hin.s2,hin.s3,hin.s4,hin.ar,hin.ep,z11,z14,z17,z21,z24,z27,z30,z33,z37⟩⟩ (Below.refl _ _))⟩
   show [(0,(frm (L.take 3) mid []).eval (.tmp (3+1))),(1,(frm (L.take 3) mid []).eval (.tmp (3+3))),(2,(frm (L.take 3) mid []).eval (.tmp (3+5))),(3,(frm (L.take 3) mid []).eval (.tmp (3+7))),(4,(frm (L.take 3) mid []).eval (.tmp (3+11))),(5,(frm (L.take 3) mid []).eval (.tmp (3+14))),(6,(frm (L.take 3) mid []).eval (.tmp (3+17))),(7,(frm (L.take 3) mid []).eval (.tmp (3+21))),(8,(frm (L.take 3) mid []).eval (.tmp (3+24))),(9,(frm (L.take 3) mid []).eval (.tmp (3+27))),(10,(frm (L.take 3) mid []).eval (.tmp (3+30))),(11,(frm (L.take 3) mid []).eval (.tmp (3+33))),(12,(frm (L.take 3) mid []).eval (.tmp (3+37)))]=_
   rw[z1,z3,z5,z7,hy11,hy14,hy17,hy21,hy24,hy27,hy30,hy33,hy37]
 ·obtain⟨hop,hgd⟩:=hop_at 39 o _ ho rfl
  obtain⟨r',e1,e2⟩:=hall 38 (by omega)
  refine⟨Ad hgd,fun Kc hKc=> ?_⟩
  have hb2':=hb2.bel' hb
  refine wp_store_row 29 (.tmp 2) (.tmp 41) hop (g+1) (pC p r') (hF2 mid) e1 29 zc hb2' (by kernel_rfl) hzc ?_ ?_
  ·have h:=AN.one (B:=Am N) (w:=w) (x:=p) (r:=r') e2
   rw[Array.all_eq_true_iff_forall_mem]
   intro u hu
   exact h u (by simpa [AN,CC]using hu)
  ·have hd:o.dst=none:=by
    have h4:=congrArg (fun l=>l[39]?) hdst
    rw[List.getElem?_map,Array.getElem?_toList,ho]at h4
    exact Option.some.inj h4
   have hput:(frm (L.take 3) mid []).put o.dst undef=frm (L.take 3) mid []:=by rw[hd];rfl
   rw[hput]
   refine hKc _ ⟨r',hb2'.row _,e2.keep (by simp) fun b ⟨k1,k2⟩ _=> ?_,GQ (Aa hw0 hb) (by omega) _⟩
   have hne:b≠g+1:=by omega
   have hbk:=setRow_other w (g+1) b (pC p r') hne
   exact⟨hbk,k1,fun i=>(World.frozen?_of_block (w:=w) hbk).trans (k2 i)⟩
theorem Fy (p:Aq) (r:AE) (w:World) (hp:Ah Ai w p r) (hsm:p.small):Calls Tryz.prog 46 #[p.val r] w fun e w'=>(∃r',e= .returned (p.val r')∧Ah (Am w.heap.size) w' p r')∧Below w.heap.size w w':=by
 have hfm:r.forms:=⟨(let ⟨a,c,h⟩:=hp.prov.form;⟨a,_,c,h⟩),(let ⟨a,c,h⟩:=hp.req.form;⟨a,_,c,h⟩),(let ⟨a,c,h⟩:=hp.con.form;⟨a,_,c,h⟩),(let ⟨a,c,h⟩:=hp.obs.form;⟨a,_,c,h⟩),(let ⟨a,c,h⟩:=hp.reco.form;⟨a,_,c,h⟩),(let ⟨a,c,h⟩:=hp.sup.form;⟨a,_,c,h⟩),(let ⟨a,c,h⟩:=hp.sug.form;⟨a,_,c,h⟩),(let ⟨a,c,h⟩:=hp.enh.form;⟨a,_,c,h⟩),(let ⟨a,c,h⟩:=hp.files.form;⟨a,_,c,h⟩)⟩
 obtain⟨g,hg⟩:∃g,g=w.heap.size:=⟨_,rfl⟩
 obtain⟨W,hW⟩:∃W,W=(w.alloc (.cells (pC p r) 29)).alloc (.cells (pC Da DF) 29):=⟨_,rfl⟩
 have HX:=Hd (show Blk W g 29 (pC p r)∧Blk W (g+1) 29 (pC Da DF)∧Below w.heap.size w W∧W.heap.size=g+2 from by
  have hb1:=Ag w (.cells (pC p r) 29)
  have hb2:=Ag (w.alloc (.cells (pC p r) 29)) (.cells (pC Da DF) 29)
  have hx1:=Blk.new w 29 (pC p r)
  have hx2:=Blk.new (w.alloc (.cells (pC p r) 29)) 29 (pC Da DF)
  rw[World.size_alloc]at hx2
  rw[hW,hg]
  exact⟨hx1.below hb2 hx1.lt,hx2,Aa hb1 hb2,by simp⟩)
 have HP:=Hd hp
 have HF:=Hd hfm
 have HG:=Hd hg
 obtain⟨⟨q1,q2,q3,e1⟩,⟨q4,q5,q6,e2⟩,⟨q7,q8,q9,e3⟩,⟨q10,q11,q12,e4⟩,⟨q13,q14,q15,e5⟩,⟨q16,q17,q18,e6⟩,⟨q19,q20,q21,e7⟩,⟨q22,q23,q24,e8⟩,⟨q25,q26,q27,e9⟩⟩:=hfm
 rcases r with ⟨r0,r1,r2,r3,r4,r5,r6,r7,r8⟩
 dsimp only at e1 e2 e3 e4 e5 e6 e7 e8 e9
 subst e1 e2 e3 e4 e5 e6 e7 e8 e9
 have HSm:=Hd hsm
 clear hp hsm
 go_enter Tryz.func46,Tryz.ntmps46
 go_upto_region 1 with fail
 dsimp only[pC,Da,DF]at hW
 rw[←hW,←hg]
 clear hW hg
 refine Je (w0:=w) (g:=g) (p:=p) (r:=_) (by kernel_rfl) (by kernel_rfl) rfl rfl HP.out HF.out HSm.out HX.out.2.2.1 ⟨Nat.le_of_eq HG.out.symm,by have:=HX.out.2.2.2;omega⟩ HX.out.1 _ HX.out.2.1 rfl (by kernel_rfl) (by kernel_rfl) (by kernel_rfl) (by kernel_rfl) ?_
 intro mid V hm hf
 obtain⟨r',h1,h2,h3⟩:=hf
 rename_i hk
 go_step
 refine hk _ _ ?_
 go_step
 exact bodyPost_ret (results_cell_row rfl _ _ (g+1) 29 _ (0,0) _ rfl h1 Tryz.underlying29 rfl (by kernel_rfl)) rfl ⟨⟨r',rfl,h2.keep (Nat.le_refl _) fun b ⟨k1,k2⟩ _=>⟨rfl,by have:=HX.out.2.2.2;have:=HG.out;omega,k2⟩⟩,h3⟩
section
variable {o:Oper} {a:Act} {w:World} {K:Act→World→Prop} {Q:Exit→Act→World→Prop}
theorem LN (t u g k:Nat) (old:Value) (aa:Option Addr) (n c:Nat) (ho:o.op= .store 36 (.tmp t) (.tmp u)) (hx:a.eval (.tmp t)= .pointer (some ⟨g,k,none⟩)) (hv:a.eval (.tmp u)= .slice aa n c) (hc:w.cell? ⟨g,k,none⟩=some old) (hf:w.frozen? ⟨g,k,none⟩=false) (_hlt:g<w.heap.size)
 (h:K (a.put o.dst undef) (w.setCell ⟨g,k,none⟩ (.slice aa n c))):o.wp Tryz.prog a w K Q:=by
 unfold Oper.wp execOp
 simp only[ho,hx,hv]
 go_simp
 exact h
theorem PO (t u g k:Nat) (old:Value) (aa:Option Addr) (n c:Nat) (ho:o.op= .store 39 (.tmp t) (.tmp u)) (hx:a.eval (.tmp t)= .pointer (some ⟨g,k,none⟩)) (hv:a.eval (.tmp u)= .slice aa n c) (hc:w.cell? ⟨g,k,none⟩=some old) (hf:w.frozen? ⟨g,k,none⟩=false) (_hlt:g<w.heap.size)
 (h:K (a.put o.dst undef) (w.setCell ⟨g,k,none⟩ (.slice aa n c))):o.wp Tryz.prog a w K Q:=by
 unfold Oper.wp execOp
 simp only[ho,hx,hv]
 go_simp
 exact h
end
theorem CT (a:Act) {d t:Nat} (v:Value) (h:d≠t):(a.put (some d) v).eval (.tmp t)=a.eval (.tmp t):=by
 show(a.tmps.setIfInBounds d v).getD t undef=a.tmps.getD t undef
 simp[Array.getD_eq_getD_getElem?,Array.getElem?_setIfInBounds_ne h]
theorem Dj (a:Act) {d:Nat} (v:Value) (h:d<a.tmps.size):(a.put (some d) v).eval (.tmp d)=v:=by
 show(a.tmps.setIfInBounds d v).getD d undef=v
 simp[Array.getD_eq_getD_getElem?,h]
theorem EE (a:Act) (d:Nat) (v:Value):(a.put (some d) v).tmps.size=a.tmps.size:=by
 show(a.tmps.setIfInBounds d v).size=a.tmps.size
 simp
theorem E0 {α:Type} {K:Kd α} {te tl tb:TypeId} {i:TypeInfo} {z:Value} {bytes fld off:Nat} (hu:Tryz.prog.underlying tl=some (.slice te)) (hi:Tryz.prog.info? te=some i) (hz:i.zero=some z) (hsz:i.size=K.size) (hby:i.bytes=bytes) (hzs:z.cells.size=K.size) (h0:0<K.size)
 {W:World} {a:Act} {Q:Exit→Act→World→Prop} {o1 o2 o3:Oper} {s x p d1 d2 gd gb N0 m0:Nat} {cs:Array Value} {l:List α} {cur old:Value} {y:α} {r:K.R}
 (ho1:o1.op= .call {callee:= .builtin .append,args:= #[.tmp s,.tmp x],argTypes:= #[tl,tl]}) (hg1:o1.guard=none) (hd1:o1.dst=some d1) (_ho2:o2.op= .fieldAddr tb (.tmp p) fld) (hg2:o2.guard=none) (hd2:o2.dst=some d2) (_ho3:o3.op= .store tl (.tmp d2) (.tmp d1)) (hg3:o3.guard=none) (hd3:o3.dst=none)
 (hfa:∀(a:Act) (w:World) (K:Act→World→Prop),a.eval (.tmp p)= .pointer (some ⟨gd,0,none⟩)→K (a.put o2.dst (.pointer (some ⟨gd,off,none⟩))) w→o2.wp Tryz.prog a w K Q)
 (hst:∀(a:Act) (w:World) (K:Act→World→Prop) (old:Value) (aa:Option Addr) (n c:Nat),a.eval (.tmp d2)= .pointer (some ⟨gd,off,none⟩)→a.eval (.tmp d1)= .slice aa n c→w.cell? ⟨gd,off,none⟩=some old→w.frozen? ⟨gd,off,none⟩=false→gd<w.heap.size→K (a.put o3.dst undef) (w.setCell ⟨gd,off,none⟩ (.slice aa n c))→o3.wp Tryz.prog a w K Q)
 (hps:a.eval (.tmp s)=cur) (hpx:a.eval (.tmp x)= .slice (some ⟨gb,0,none⟩) 1 1) (hpp:a.eval (.tmp p)= .pointer (some ⟨gd,0,none⟩)) (hne1:d1≠p) (hne2:d1≠d2) (hsz1:d1<a.tmps.size) (hsz2:d2<a.tmps.size)
 (hbd:Blk W gd tb cs) (hof:cs[off]?=some old) (hgd:gd<N0) (hte:tb≠te) (hac:Acc K te N0 W l cur) (hb:Blk W gb te (K.cells y r).toArray) (hy:K.holds (Am m0) W y r) (hm:N0≤m0) (hcm:∀b,cur.ownBlock=some b→b<m0) (hN:N0≤W.heap.size) (hln:(l.length+1)*bytes≤140737488355328) (hl:l.length+1≤maxLen)
 (hK:∀ao cap W',Acc K te N0 W' (l++ [y]) (.slice ao (l.length+1) cap)→Blk W' gd tb (cs.setIfInBounds off (.slice ao (l.length+1) cap))→Ae (fun b=>b=gd∨cur.ownBlock=some b) W W'→Q .normal ((a.put (some d1) (.slice ao (l.length+1) cap)).put (some d2) (.pointer (some ⟨gd,off,none⟩))) W'):
 Er Q [o1,o2,o3] a W:=by
 obtain⟨xs,hown,hone⟩:=hac.own
 have hsrc:Src Tryz.prog K.size tl (.slice (some ⟨gb,0,none⟩) 1 1) 1 (K.cells y r) W:=by
  have h1:=Own.of_blk (e:=te) (size:=K.size) hb 1 (by simp[K.len]) (by simp[maxLen])
  exact h1.src hu fun u hu=>K.one hy u (by simpa using hu)
 refine⟨hg1,DK W (.tmp s) (.tmp x) _ _ ho1 te i z K.size bytes hu hi hz hsz hby hzs h0 cur l.length xs hps hown hone _ 1 (K.cells y r) hpx hsrc hl hln fun ao cap W1 k1 k2 k3 k4 k5 k6=>⟨hg2,hfa _ _ _ ?_ ⟨hg3,?_⟩⟩⟩
 ·rw[hd1,CT a _ hne1]
  exact hpp
 ·have hgo:cur.ownBlock≠some gd:=fun e=>by
   obtain⟨c2,h2⟩:=hown.blk e
   exact hbd.ne_ h2 hte rfl
  have hb1:Blk W1 gd tb cs:=hbd.grown k4 fun e=>hgo e.symm
  have hc1:W1.cell? ⟨gd,off,none⟩=some old:=(hb1.cell off).trans hof
  have hA:=Acc.push hown hac hm hy hcm hN k3 k4 k5
  have hT1:Ae (fun b=>b=gd∨cur.ownBlock=some b) W W1:=Ae.of_grown k4 fun k hk=> .inr hk
  refine hst _ _ _ old ao (l.length+1) cap ?_ ?_ hc1 (hb1.frozen off) hb1.lt ?_
  ·rw[hd1,hd2,Dj _ _ (by rw[EE];exact hsz2)]
  ·rw[hd1,hd2,CT _ _ (fun e=>hne2 e.symm),Dj _ _ hsz1]
  ·show Q .normal (((a.put o1.dst _).put o2.dst _).put o3.dst undef) _
   rw[hd1,hd2,hd3]
   exact hK ao cap _ (hA.keep (by simp) fun b hb _=>Below.heap_setCell W1 ⟨gd,off,none⟩ _ b (by show b≠gd;omega)) (hb1.set_ off _) (hT1.setCell (fun _=> .inl rfl) _)
theorem AX.bel {w w':World} {b o:Nat} {cs:List Value} (h:AX w b o cs) (hb:Below w.heap.size w w'):AX w' b o cs:=h.below hb
section
variable {o:Oper} {a:Act} {w:World} {K:Act→World→Prop} {Q:Exit→Act→World→Prop}
theorem QA (t g q:Nat) (ho:o.op= .fieldAddr 38 (.tmp t) 0) (hx:a.eval (.tmp t)= .pointer (some ⟨g,q,none⟩)) (h:K (a.put o.dst (.pointer (some ⟨g,q,none⟩))) w):o.wp Tryz.prog a w K Q:=by
 unfold Oper.wp execOp
 simp only[ho,hx]
 go_simp
 exact h
theorem IL (t g q:Nat) (ho:o.op= .fieldAddr 38 (.tmp t) 1) (hx:a.eval (.tmp t)= .pointer (some ⟨g,q,none⟩)) (h:K (a.put o.dst (.pointer (some ⟨g,q+1,none⟩))) w):o.wp Tryz.prog a w K Q:=by
 unfold Oper.wp execOp
 simp only[ho,hx]
 go_simp
 exact h
theorem QB (t g q:Nat) (ho:o.op= .fieldAddr 55 (.tmp t) 0) (hx:a.eval (.tmp t)= .pointer (some ⟨g,q,none⟩)) (h:K (a.put o.dst (.pointer (some ⟨g,q,none⟩))) w):o.wp Tryz.prog a w K Q:=by
 unfold Oper.wp execOp
 simp only[ho,hx]
 go_simp
 exact h
theorem KR (t g q:Nat) (ho:o.op= .fieldAddr 55 (.tmp t) 1) (hx:a.eval (.tmp t)= .pointer (some ⟨g,q,none⟩)) (h:K (a.put o.dst (.pointer (some ⟨g,q+1,none⟩))) w):o.wp Tryz.prog a w K Q:=by
 unfold Oper.wp execOp
 simp only[ho,hx]
 go_simp
 exact h
theorem ES (t g k:Nat) (aa:Option Addr) (n c:Nat) (ho:o.op= .load 36 (.tmp t)) (hx:a.eval (.tmp t)= .pointer (some ⟨g,k,none⟩)) (hc:w.cell? ⟨g,k,none⟩=some (.slice aa n c)) (h:K (a.put o.dst (.slice aa n c)) w):o.wp Tryz.prog a w K Q:=by
 unfold Oper.wp execOp
 simp only[ho,hx]
 go_simp
 exact h
theorem LJ (t g k:Nat) (aa:Option Addr) (n c:Nat) (ho:o.op= .load 39 (.tmp t)) (hx:a.eval (.tmp t)= .pointer (some ⟨g,k,none⟩)) (hc:w.cell? ⟨g,k,none⟩=some (.slice aa n c)) (h:K (a.put o.dst (.slice aa n c)) w):o.wp Tryz.prog a w K Q:=by
 unfold Oper.wp execOp
 simp only[ho,hx]
 go_simp
 exact h
theorem LM (t u b q n c i:Nat) (ho:o.op= .indexAddr 36 (.tmp t) (.tmp u)) (hx:a.eval (.tmp t)= .slice (some ⟨b,q,none⟩) n c) (hu:a.eval (.tmp u)= .int .i64 i) (hi:i<n) (h:K (a.put o.dst (.pointer (some ⟨b,q+i*15,none⟩))) w):o.wp Tryz.prog a w K Q:=by
 have hki:(i:Int)<(n:Int):=by omega
 unfold Oper.wp execOp
 simp only[ho,hx,hu]
 go_simp
 exact h
theorem PN (t u b q n c i:Nat) (ho:o.op= .indexAddr 39 (.tmp t) (.tmp u)) (hx:a.eval (.tmp t)= .slice (some ⟨b,q,none⟩) n c) (hu:a.eval (.tmp u)= .int .i64 i) (hi:i<n) (h:K (a.put o.dst (.pointer (some ⟨b,q+i*2,none⟩))) w):o.wp Tryz.prog a w K Q:=by
 have hki:(i:Int)<(n:Int):=by omega
 unfold Oper.wp execOp
 simp only[ho,hx,hu]
 go_simp
 exact h
theorem Bj (t:Nat) (v:Value) (ho:o.op= .move (.tmp t)) (hx:a.eval (.tmp t)=v) (h:K (a.put o.dst v) w):o.wp Tryz.prog a w K Q:=by
 subst hx
 unfold Oper.wp execOp
 simp only[ho]
 exact h
theorem LK (t g k:Nat) (p:Aq) (r:AE) (hf:r.forms) (ho:o.op= .load 29 (.tmp t)) (hx:a.eval (.tmp t)= .pointer (some ⟨g,k,none⟩)) (hc:AX w g k (CC p r)) (h:K (a.put o.dst (p.val r)) w):o.wp Tryz.prog a w K Q:=by
 obtain⟨⟨q1,q2,q3,e1⟩,⟨q4,q5,q6,e2⟩,⟨q7,q8,q9,e3⟩,⟨q10,q11,q12,e4⟩,⟨q13,q14,q15,e5⟩,⟨q16,q17,q18,e6⟩,⟨q19,q20,q21,e7⟩,⟨q22,q23,q24,e8⟩,⟨q25,q26,q27,e9⟩⟩:=hf
 rcases r with ⟨r0,r1,r2,r3,r4,r5,r6,r7,r8⟩
 dsimp only at e1 e2 e3 e4 e5 e6 e7 e8 e9
 subst e1 e2 e3 e4 e5 e6 e7 e8 e9
 have x0:=hc.2 0 (show 0<15 by omega)
 have x1:=hc.2 1 (show 1<15 by omega)
 have x2:=hc.2 2 (show 2<15 by omega)
 have x3:=hc.2 3 (show 3<15 by omega)
 have x4:=hc.2 4 (show 4<15 by omega)
 have x5:=hc.2 5 (show 5<15 by omega)
 have x6:=hc.2 6 (show 6<15 by omega)
 have x7:=hc.2 7 (show 7<15 by omega)
 have x8:=hc.2 8 (show 8<15 by omega)
 have x9:=hc.2 9 (show 9<15 by omega)
 have x10:=hc.2 10 (show 10<15 by omega)
 have x11:=hc.2 11 (show 11<15 by omega)
 have x12:=hc.2 12 (show 12<15 by omega)
 have x13:=hc.2 13 (show 13<15 by omega)
 have x14:=hc.2 14 (show 14<15 by omega)
 dsimp only[CC]at x0 x1 x2 x3 x4 x5 x6 x7 x8 x9 x10 x11 x12 x13 x14
 simp only[Nat.add_zero,List.getElem?_cons_zero,List.getElem?_cons_succ]at x0 x1 x2 x3 x4 x5 x6 x7 x8 x9 x10 x11 x12 x13 x14
 have hlt:=hc.1
 unfold Oper.wp execOp
 simp only[ho,hx]
 go_simp
 exact h
theorem JU (t:Nat) (v:Value) (ho:o.op= .call {callee:= .value (.func 46),args:= #[.tmp t],argTypes:= #[29]}) (hx:a.eval (.tmp t)=v) (hc:Calls Tryz.prog 46 #[v] w fun e w'=>∃u,e= .returned u∧K (a.put o.dst u) w'):o.wp Tryz.prog a w K Q:=by
 unfold Oper.wp execOp
 simp only[ho,resolve,Sem.run_bind,List.map_toArray,List.map_cons,List.map_nil,hx]
 go_simp
 refine hc.mono ?_
 rintro e w' ⟨u,rfl,hk⟩
 exact hk
theorem LL (t:Nat) (p:Aq) (r:AE) (hf:r.forms) (ho:o.op= .buildSlice 36 1 #[(0,.tmp t)]) (hx:a.eval (.tmp t)=p.val r) (h:K (a.put o.dst (.slice (some ⟨w.heap.size,0,none⟩) 1 1)) (w.alloc (.cells (pkA p r) 29))):o.wp Tryz.prog a w K Q:=by
 obtain⟨⟨q1,q2,q3,e1⟩,⟨q4,q5,q6,e2⟩,⟨q7,q8,q9,e3⟩,⟨q10,q11,q12,e4⟩,⟨q13,q14,q15,e5⟩,⟨q16,q17,q18,e6⟩,⟨q19,q20,q21,e7⟩,⟨q22,q23,q24,e8⟩,⟨q25,q26,q27,e9⟩⟩:=hf
 rcases r with ⟨r0,r1,r2,r3,r4,r5,r6,r7,r8⟩
 dsimp only at e1 e2 e3 e4 e5 e6 e7 e8 e9
 subst e1 e2 e3 e4 e5 e6 e7 e8 e9
 exact N5 t _ ho hx rfl (by kernel_rfl) h
end
theorem Ah.forms {B:World→Nat→Prop} {w:World} {p:Aq} {r:AE} (h:Ah B w p r):r.forms:=
 ⟨(let ⟨a,c,e⟩:=h.prov.form;⟨a,_,c,e⟩),(let ⟨a,c,e⟩:=h.req.form;⟨a,_,c,e⟩),(let ⟨a,c,e⟩:=h.con.form;⟨a,_,c,e⟩),(let ⟨a,c,e⟩:=h.obs.form;⟨a,_,c,e⟩),(let ⟨a,c,e⟩:=h.reco.form;⟨a,_,c,e⟩),(let ⟨a,c,e⟩:=h.sup.form;⟨a,_,c,e⟩),(let ⟨a,c,e⟩:=h.sug.form;⟨a,_,c,e⟩),(let ⟨a,c,e⟩:=h.enh.form;⟨a,_,c,e⟩),(let ⟨a,c,e⟩:=h.files.form;⟨a,_,c,e⟩)⟩
def Qs (g gd k j b oo n1 c1 b2 o2 n2 c2:Nat) (p:Aq) (r:AE) (cur:Value) (N:Nat) (w:World):Nat→Value→Prop
 |0,v=>v= .pointer (some ⟨gd,1,none⟩)
 |1,v=>v=cur
 |2,v=>v= .pointer (some ⟨g,0,none⟩)
 |3,v=>v= .slice (some ⟨b,oo,none⟩) n1 c1
 |4,v=>v= .int .i64 k
 |5,v=>v= .pointer (some ⟨b,oo+k*2,none⟩)
 |6,v=>v= .pointer (some ⟨b,oo+k*2+1,none⟩)
 |7,v=>v= .slice (some ⟨b2,o2,none⟩) n2 c2
 |8,v=>v= .int .i64 j
 |9,v=>v= .pointer (some ⟨b2,o2+j*15,none⟩)
 |10,v=>v=p.val r
 |11,v=>∃r',v=p.val r'∧Ah (Am N) w p r'
 |12,v=>∃r' gb,v= .slice (some ⟨gb,0,none⟩) 1 1∧Blk w gb 29 (CC p r').toArray∧Ah (Am N) w p r'
 |_,_=>True
theorem My {g gd k j b oo n1 c1 b2 o2 n2 c2:Nat} {p:Aq} {r:AE} {cur:Value} {N:Nat} {w w':World} (hb:Below w.heap.size w w'):∀{i:Nat} {v:Value},Qs g gd k j b oo n1 c1 b2 o2 n2 c2 p r cur N w i v→Qs g gd k j b oo n1 c1 b2 o2 n2 c2 p r cur N w' i v
 |0,_,h=>h
 |1,_,h=>h
 |2,_,h=>h
 |3,_,h=>h
 |4,_,h=>h
 |5,_,h=>h
 |6,_,h=>h
 |7,_,h=>h
 |8,_,h=>h
 |9,_,h=>h
 |10,_,h=>h
 |11,_,⟨r',e,h⟩=>⟨r',e,Ah.belN h hb⟩
 |12,_,⟨r',gb,e,h1,h2⟩=>⟨r',gb,e,h1.bel' hb,Ah.belN h2 hb⟩
 |_+13,_,_=>trivial
abbrev P6:List Op:= [.fieldAddr 38 (.tmp 5) 1,.load 36 (.tmp 33),.fieldAddr 55 (.tmp 1) 0,.load 39 (.tmp 35),.move (.tmp 4),.indexAddr 39 (.tmp 36) (.tmp 37),.fieldAddr 38 (.tmp 38) 1,.load 36 (.tmp 39),.move (.tmp 6),.indexAddr 36 (.tmp 40) (.tmp 41),.load 29 (.tmp 42),.call {callee:= .value (.func 46),args:= #[.tmp 43],argTypes:= #[29]},.buildSlice 36 1 #[(0,.tmp 44)],.call {callee:= .builtin .append,args:= #[.tmp 34,.tmp 45],argTypes:= #[36,36]},.fieldAddr 38 (.tmp 5) 1,.store 36 (.tmp 47) (.tmp 46)]
abbrev Oo:List (List Nat):= [[],[0],[],[2],[],[3,4],[5],[6],[],[7,8],[9],[10],[11],[1,12],[13],[14]]
theorem Pw {L:List Value} {n0 w0:World} {g gd k j b oo n1 c1 b2 o2 n2 c2 N0:Nat} {p:Aq} {r:AE} {cur:Value} {l:List Aq} {cs:Array Value} {ops:Array Oper} {Q:Exit→Act→World→Prop} {id:Nat} (hL:L.length=73) (hsz:ops.size=16)
 (hL1:(L[1]?).getD undef= .pointer (some ⟨g,0,none⟩)) (hL4:(L[4]?).getD undef= .int .i64 k) (hL5:(L[5]?).getD undef= .pointer (some ⟨gd,0,none⟩)) (hL6:(L[6]?).getD undef= .int .i64 j) {vi:Value} (hbg:Blk n0 g 55 #[.slice (some ⟨b,oo,none⟩) n1 c1,vi]) {prio:Int} (hcr:AX n0 b (oo+k*2) [.int .i64 prio,.slice (some ⟨b2,o2,none⟩) n2 c2]) (hk:k<n1) (hcp:AX n0 b2 (o2+j*15) (CC p r)) (hj:j<n2)
 (hbd:Blk n0 gd 38 cs) (hof:cs[1]?=some cur) (hin:Ah Ai w0 p r) (hw0:Below w0.heap.size w0 n0) (hsm:p.small) (hac:Acc AN 29 N0 n0 l cur) (hgd:gd<N0) (hN0:N0≤n0.heap.size) (hln:l.length<1048576)
 (hops:(ops.toList.map fun o=>(o.op,o.guard))=P6.map fun x=>(x,none)) (hdst:(ops.toList.map (·.dst))=((List.range 15).map fun i=>some (33+i))++ [none])
 (hdeps:((ops.toList.zip Oo).all fun x=>x.2.all fun d=>x.1.after.any fun e=>e.on==d && Region.binds .any e)=true)
 (hlow:(ops.toList.zipIdx.all fun x=>x.1.after.all fun e=>decide (e.on<x.2))=true)
 (hK:∀mid ao cap W,mid.length=15→Acc AN 29 N0 W (l++ [p]) (.slice ao (l.length+1) cap)→Blk W gd 38 (cs.setIfInBounds 1 (.slice ao (l.length+1) cap))→Ae (fun b=>b=gd∨cur.ownBlock=some b) n0 W→Q .normal (frm (L.take 33) mid (L.drop 48)) W):
 (Code.region id ops true).wp Tryz.prog Q {tmps:=L.toArray,defers:= []} n0:=by
 obtain⟨N,hN⟩:∃N,N=n0.heap.size:=⟨_,rfl⟩
 have hF1:∀mid,(frm (L.take 33) mid (L.drop 48)).eval (.tmp 1)= .pointer (some ⟨g,0,none⟩):=fun mid=>(AI (by rw[List.length_take];omega)).trans (by rw[List.getElem?_take_of_lt (by omega)];exact hL1)
 have hF4:∀mid,(frm (L.take 33) mid (L.drop 48)).eval (.tmp 4)= .int .i64 k:=fun mid=>(AI (by rw[List.length_take];omega)).trans (by rw[List.getElem?_take_of_lt (by omega)];exact hL4)
 have hF5:∀mid,(frm (L.take 33) mid (L.drop 48)).eval (.tmp 5)= .pointer (some ⟨gd,0,none⟩):=fun mid=>(AI (by rw[List.length_take];omega)).trans (by rw[List.getElem?_take_of_lt (by omega)];exact hL5)
 have hF6:∀mid,(frm (L.take 33) mid (L.drop 48)).eval (.tmp 6)= .int .i64 j:=fun mid=>(AI (by rw[List.length_take];omega)).trans (by rw[List.getElem?_take_of_lt (by omega)];exact hL6)
 have hop_at:∀(i:Nat) (o:Oper) (x:Op),ops[i]?=some o→P6[i]?=some x→o.op=x∧o.guard=none:=fun i o x ho hx=>by
  have h4:=congrArg (fun l=>l[i]?) hops
  rw[List.getElem?_map,List.getElem?_map,Array.getElem?_toList,ho,hx]at h4
  exact Prod.mk.inj (Option.some.inj h4)
 have hds_at:∀(i:Nat) (o:Oper) (x:Option Tmp),ops[i]?=some o→(((List.range 15).map fun i=>some (33+i))++ [none])[i]?=some x→o.dst=x:=fun i o x ho hx=>by
  have h4:=congrArg (fun l=>l[i]?) hdst
  rw[List.getElem?_map,Array.getElem?_toList,ho,hx]at h4
  exact Option.some.inj h4
 obtain⟨ac,cc,hcur⟩:∃ac cc,cur= .slice ac l.length cc:=by
  obtain⟨xs,hown,_⟩:=hac.own
  exact Cl hown
 refine CZ (ok:=Qs g gd k j b oo n1 c1 b2 o2 n2 c2 p r cur N) (fun hb h=>My hb h) (n:=33) (K:=13) (M:=15) (N:=16) (by omega) (by omega) hsz (by omega) Oo (by rw[List.map_take,hdst];rfl) hdeps rfl (by kernel_rfl) hlow (fun i o mid w hi ho hm hb hdp=> ?_) (fun mid w hm hb hall=> ?_)
 ·have hbN:N≤w.heap.size:=hN▸hb.size
  have hcases:i=0∨i=1∨i=2∨i=3∨i=4∨i=5∨i=6∨i=7∨i=8∨i=9∨i=10∨i=11∨i=12:=by omega
  rcases hcases with rfl|rfl|rfl|rfl|rfl|rfl|rfl|rfl|rfl|rfl|rfl|rfl|rfl
  all_goals
   obtain⟨hop,hgd'⟩:=hop_at _ _ _ ho rfl
   have hd:=hdp _ rfl
   clear hdp hop_at hds_at ho
  ·exact⟨Ad hgd',fun Kc hKc=>IL 5 gd 0 hop (hF5 mid) (hKc _ _ rfl (Below.refl _ _))⟩
  ·subst hcur
   exact⟨Ad hgd',fun Kc hKc=>ES 33 gd 1 _ _ _ hop (hd 0 (by simp)) (((hbd.bel' hb).cell 1).trans hof) (hKc _ _ rfl (Below.refl _ _))⟩
  ·exact⟨Ad hgd',fun Kc hKc=>QB 1 g 0 hop (hF1 mid) (hKc _ _ rfl (Below.refl _ _))⟩
  ·exact⟨Ad hgd',fun Kc hKc=>LJ 35 g 0 _ _ _ hop (hd 2 (by simp)) ((hbg.bel' hb).cell 0) (hKc _ _ rfl (Below.refl _ _))⟩
  ·exact⟨Ad hgd',fun Kc hKc=>Bj 4 _ hop (hF4 mid) (hKc _ _ rfl (Below.refl _ _))⟩
  ·exact⟨Ad hgd',fun Kc hKc=>PN 36 37 b oo n1 c1 k hop (hd 3 (by simp)) (hd 4 (by simp)) hk (hKc _ _ rfl (Below.refl _ _))⟩
  ·exact⟨Ad hgd',fun Kc hKc=>IL 38 b _ hop (hd 5 (by simp)) (hKc _ _ rfl (Below.refl _ _))⟩
  ·exact⟨Ad hgd',fun Kc hKc=>ES 39 b _ _ _ _ hop (hd 6 (by simp)) ((hcr.below hb).2 1 (show 1<2 by omega)) (hKc _ _ rfl (Below.refl _ _))⟩
  ·exact⟨Ad hgd',fun Kc hKc=>Bj 6 _ hop (hF6 mid) (hKc _ _ rfl (Below.refl _ _))⟩
  ·exact⟨Ad hgd',fun Kc hKc=>LM 40 41 b2 o2 n2 c2 j hop (hd 7 (by simp)) (hd 8 (by simp)) hj (hKc _ _ rfl (Below.refl _ _))⟩
  ·exact⟨Ad hgd',fun Kc hKc=>LK 42 b2 _ p r hin.forms hop (hd 9 (by simp)) (hcp.below hb) (hKc _ _ rfl (Below.refl _ _))⟩
  ·have e1:=hd 10 (by simp)
   refine⟨Ad hgd',fun Kc hKc=>JU 43 _ hop e1 ((Fy p r w (hin.keep (Nat.le_trans hw0.size hb.size) fun b _ hlt=>⟨(Aa hw0 hb).block b hlt,trivial⟩) hsm).mono ?_)⟩
   rintro e w' ⟨⟨r',rfl,k1⟩,k2⟩
   exact⟨_,rfl,hKc _ w' ⟨r',rfl,k1.keep (Nat.le_refl _) fun b ⟨j1,j2⟩ _=>⟨rfl,Nat.le_trans hbN j1,j2⟩⟩ k2⟩
  ·obtain⟨r',e1,e2⟩:=hd 11 (by simp)
   exact⟨Ad hgd',fun Kc hKc=>LL 44 p r' e2.forms hop e1 (hKc _ _ ⟨r',w.heap.size,rfl,Blk.new _ _ _,Ah.belN e2 (Ag _ _)⟩ (Ag _ _))⟩
 ·have e0:ops.toList.drop 13= [ops[13]'(by omega),ops[14]'(by omega),ops[15]'(by omega)]:=by
   rw[List.drop_eq_getElem_cons (by rw[Array.length_toList];omega),List.drop_eq_getElem_cons (by rw[Array.length_toList];omega),List.drop_eq_getElem_cons (by rw[Array.length_toList];omega),List.drop_eq_nil_of_le (by rw[Array.length_toList];omega)]
   simp only[Array.getElem_toList]
  rw[e0]
  obtain⟨hp1,hg1⟩:=hop_at 13 _ _ (Array.getElem?_eq_getElem (by omega)) rfl
  obtain⟨hp2,hg2⟩:=hop_at 14 _ _ (Array.getElem?_eq_getElem (by omega)) rfl
  obtain⟨hp3,hg3⟩:=hop_at 15 _ _ (Array.getElem?_eq_getElem (by omega)) rfl
  have hd1:=hds_at 13 _ _ (Array.getElem?_eq_getElem (by omega)) rfl
  have hd2:=hds_at 14 _ _ (Array.getElem?_eq_getElem (by omega)) rfl
  have hd3:=hds_at 15 _ _ (Array.getElem?_eq_getElem (by omega)) rfl
  have z1:=hall 1 (by omega)
  obtain⟨r',gb,z2,z3,z4⟩:=hall 12 (by omega)
  obtain⟨iD,hiD,hz0,hz1,hz2⟩:=NO
  have hts:(frm (L.take 33) mid (L.drop 48)).tmps.size=73:=by
   show((L.take 33)++mid++L.drop 48).toArray.size=73
   simp[List.length_take,List.length_drop,hL,hm]
  refine E0 (K:=AN) (r:=r') (y:=p) (m0:=N) Tryz.underlying36 hiD hz0 hz1 hz2 rfl (by decide) hp1 hg1 hd1 hp2 hg2 hd2 hp3 hg3 hd3 (fun a w K h1 h2=>IL _ _ _ hp2 h1 h2) (fun a w K old aa n c h1 h2 h3 h4 h5 h6=>LN _ _ _ _ old aa n c hp3 h1 h2 h3 h4 h5 h6) z1 z2 (hF5 mid) (by decide) (by decide) (by rw[hts];decide) (by rw[hts];decide) (hbd.bel' hb) hof hgd (by decide) (hac.below hb) z3 z4 (by omega) (fun b hb2=> ?_) (by have:=hb.size;omega) (by omega) (by simp only[maxLen];omega) fun ao cap W k1 k2 k3=> ?_
  ·obtain⟨xs,hown,_⟩:=hac.own
   have:=hown.lt b hb2
   omega
  ·have hF:(L.take 33).length=33:=by rw[List.length_take];omega
   rw[BZ hF (by rw[hm];decide),BZ hF (by rw[List.length_set,hm];decide)]
   exact hK _ ao cap W (by rw[List.length_set,List.length_set];exact hm) k1 k2 ((Ae.of_below hb _).trans k3 fun _ _ h=>h)
def NC (g gd _k j _b _oo _n1 _c1 b2 o2 n2 c2:Nat) (p:Aq) (r:AE) (cur:Value) (N:Nat) (w:World):Nat→Value→Prop
 |0,v=>v= .pointer (some ⟨gd,1,none⟩)
 |1,v=>v=cur
 |2,v=>v= .pointer (some ⟨g,1,none⟩)
 |3,v=>v= .slice (some ⟨b2,o2,none⟩) n2 c2
 |4,v=>v= .int .i64 j
 |5,v=>v= .pointer (some ⟨b2,o2+j*15,none⟩)
 |6,v=>v=p.val r
 |7,v=>∃r',v=p.val r'∧Ah (Am N) w p r'
 |8,v=>∃r' gb,v= .slice (some ⟨gb,0,none⟩) 1 1∧Blk w gb 29 (CC p r').toArray∧Ah (Am N) w p r'
 |_,_=>True
theorem Kz {g gd k j b oo n1 c1 b2 o2 n2 c2:Nat} {p:Aq} {r:AE} {cur:Value} {N:Nat} {w w':World} (hb:Below w.heap.size w w'):∀{i:Nat} {v:Value},NC g gd k j b oo n1 c1 b2 o2 n2 c2 p r cur N w i v→NC g gd k j b oo n1 c1 b2 o2 n2 c2 p r cur N w' i v
 |0,_,h=>h
 |1,_,h=>h
 |2,_,h=>h
 |3,_,h=>h
 |4,_,h=>h
 |5,_,h=>h
 |6,_,h=>h
 |7,_,⟨r',e,h⟩=>⟨r',e,Ah.belN h hb⟩
 |8,_,⟨r',gb,e,h1,h2⟩=>⟨r',gb,e,h1.bel' hb,Ah.belN h2 hb⟩
 |_+9,_,_=>trivial
abbrev Nz:List Op:= [.fieldAddr 55 (.tmp 3) 1,.load 36 (.tmp 61),.fieldAddr 55 (.tmp 1) 1,.load 36 (.tmp 63),.move (.tmp 7),.indexAddr 36 (.tmp 64) (.tmp 65),.load 29 (.tmp 66),.call {callee:= .value (.func 46),args:= #[.tmp 67],argTypes:= #[29]},.buildSlice 36 1 #[(0,.tmp 68)],.call {callee:= .builtin .append,args:= #[.tmp 62,.tmp 69],argTypes:= #[36,36]},.fieldAddr 55 (.tmp 3) 1,.store 36 (.tmp 71) (.tmp 70)]
abbrev LR:List (List Nat):= [[],[0],[],[2],[],[3,4],[5],[6],[7],[1,8],[9],[10]]
theorem NU {L:List Value} {n0 w0:World} {g gd k j b oo n1 c1 b2 o2 n2 c2 N0:Nat} {p:Aq} {r:AE} {cur:Value} {l:List Aq} {cs:Array Value} {ops:Array Oper} {Q:Exit→Act→World→Prop} {id:Nat} (hL:L.length=73) (hsz:ops.size=12)
 (hL1:(L[1]?).getD undef= .pointer (some ⟨g,0,none⟩)) (hL3:(L[3]?).getD undef= .pointer (some ⟨gd,0,none⟩)) (hL7:(L[7]?).getD undef= .int .i64 j) {vr:Value} (hbg:Blk n0 g 55 #[vr,.slice (some ⟨b2,o2,none⟩) n2 c2]) (hcp:AX n0 b2 (o2+j*15) (CC p r)) (hj:j<n2)
 (hbd:Blk n0 gd 55 cs) (hof:cs[1]?=some cur) (hin:Ah Ai w0 p r) (hw0:Below w0.heap.size w0 n0) (hsm:p.small) (hac:Acc AN 29 N0 n0 l cur) (hgd:gd<N0) (hN0:N0≤n0.heap.size) (hln:l.length<1048576)
 (hops:(ops.toList.map fun o=>(o.op,o.guard))=Nz.map fun x=>(x,none)) (hdst:(ops.toList.map (·.dst))=((List.range 11).map fun i=>some (61+i))++ [none])
 (hdeps:((ops.toList.zip LR).all fun x=>x.2.all fun d=>x.1.after.any fun e=>e.on==d && Region.binds .any e)=true)
 (hlow:(ops.toList.zipIdx.all fun x=>x.1.after.all fun e=>decide (e.on<x.2))=true)
 (hK:∀mid ao cap W,mid.length=11→Acc AN 29 N0 W (l++ [p]) (.slice ao (l.length+1) cap)→Blk W gd 55 (cs.setIfInBounds 1 (.slice ao (l.length+1) cap))→Ae (fun b=>b=gd∨cur.ownBlock=some b) n0 W→Q .normal (frm (L.take 61) mid (L.drop 72)) W):
 (Code.region id ops true).wp Tryz.prog Q {tmps:=L.toArray,defers:= []} n0:=by
 obtain⟨N,hN⟩:∃N,N=n0.heap.size:=⟨_,rfl⟩
 have hF1:∀mid,(frm (L.take 61) mid (L.drop 72)).eval (.tmp 1)= .pointer (some ⟨g,0,none⟩):=fun mid=>(AI (by rw[List.length_take];omega)).trans (by rw[List.getElem?_take_of_lt (by omega)];exact hL1)
 have hF3:∀mid,(frm (L.take 61) mid (L.drop 72)).eval (.tmp 3)= .pointer (some ⟨gd,0,none⟩):=fun mid=>(AI (by rw[List.length_take];omega)).trans (by rw[List.getElem?_take_of_lt (by omega)];exact hL3)
 have hF7:∀mid,(frm (L.take 61) mid (L.drop 72)).eval (.tmp 7)= .int .i64 j:=fun mid=>(AI (by rw[List.length_take];omega)).trans (by rw[List.getElem?_take_of_lt (by omega)];exact hL7)
 have hop_at:∀(i:Nat) (o:Oper) (x:Op),ops[i]?=some o→Nz[i]?=some x→o.op=x∧o.guard=none:=fun i o x ho hx=>by
  have h4:=congrArg (fun l=>l[i]?) hops
  rw[List.getElem?_map,List.getElem?_map,Array.getElem?_toList,ho,hx]at h4
  exact Prod.mk.inj (Option.some.inj h4)
 have hds_at:∀(i:Nat) (o:Oper) (x:Option Tmp),ops[i]?=some o→(((List.range 11).map fun i=>some (61+i))++ [none])[i]?=some x→o.dst=x:=fun i o x ho hx=>by
  have h4:=congrArg (fun l=>l[i]?) hdst
  rw[List.getElem?_map,Array.getElem?_toList,ho,hx]at h4
  exact Option.some.inj h4
 obtain⟨ac,cc,hcur⟩:∃ac cc,cur= .slice ac l.length cc:=by
  obtain⟨xs,hown,_⟩:=hac.own
  exact Cl hown
 refine CZ (ok:=NC g gd k j b oo n1 c1 b2 o2 n2 c2 p r cur N) (fun hb h=>Kz hb h) (n:=61) (K:=9) (M:=11) (N:=12) (by omega) (by omega) hsz (by omega) LR (by rw[List.map_take,hdst];rfl) hdeps rfl (by kernel_rfl) hlow (fun i o mid w hi ho hm hb hdp=> ?_) (fun mid w hm hb hall=> ?_)
 ·have hbN:N≤w.heap.size:=hN▸hb.size
  have hcases:i=0∨i=1∨i=2∨i=3∨i=4∨i=5∨i=6∨i=7∨i=8:=by omega
  rcases hcases with rfl|rfl|rfl|rfl|rfl|rfl|rfl|rfl|rfl
  all_goals
   obtain⟨hop,hgd'⟩:=hop_at _ _ _ ho rfl
   have hd:=hdp _ rfl
   clear hdp hop_at hds_at ho
  ·exact⟨Ad hgd',fun Kc hKc=>KR 3 gd 0 hop (hF3 mid) (hKc _ _ rfl (Below.refl _ _))⟩
  ·subst hcur
   exact⟨Ad hgd',fun Kc hKc=>ES 61 gd 1 _ _ _ hop (hd 0 (by simp)) (((hbd.bel' hb).cell 1).trans hof) (hKc _ _ rfl (Below.refl _ _))⟩
  ·exact⟨Ad hgd',fun Kc hKc=>KR 1 g 0 hop (hF1 mid) (hKc _ _ rfl (Below.refl _ _))⟩
  ·exact⟨Ad hgd',fun Kc hKc=>ES 63 g 1 _ _ _ hop (hd 2 (by simp)) ((hbg.bel' hb).cell 1) (hKc _ _ rfl (Below.refl _ _))⟩
  ·exact⟨Ad hgd',fun Kc hKc=>Bj 7 _ hop (hF7 mid) (hKc _ _ rfl (Below.refl _ _))⟩
  ·exact⟨Ad hgd',fun Kc hKc=>LM 64 65 b2 o2 n2 c2 j hop (hd 3 (by simp)) (hd 4 (by simp)) hj (hKc _ _ rfl (Below.refl _ _))⟩
  ·exact⟨Ad hgd',fun Kc hKc=>LK 66 b2 _ p r hin.forms hop (hd 5 (by simp)) (hcp.below hb) (hKc _ _ rfl (Below.refl _ _))⟩
  ·have e1:=hd 6 (by simp)
   refine⟨Ad hgd',fun Kc hKc=>JU 67 _ hop e1 ((Fy p r w (hin.keep (Nat.le_trans hw0.size hb.size) fun b _ hlt=>⟨(Aa hw0 hb).block b hlt,trivial⟩) hsm).mono ?_)⟩
   rintro e w' ⟨⟨r',rfl,k1⟩,k2⟩
   exact⟨_,rfl,hKc _ w' ⟨r',rfl,k1.keep (Nat.le_refl _) fun b ⟨j1,j2⟩ _=>⟨rfl,Nat.le_trans hbN j1,j2⟩⟩ k2⟩
  ·obtain⟨r',e1,e2⟩:=hd 7 (by simp)
   exact⟨Ad hgd',fun Kc hKc=>LL 68 p r' e2.forms hop e1 (hKc _ _ ⟨r',w.heap.size,rfl,Blk.new _ _ _,Ah.belN e2 (Ag _ _)⟩ (Ag _ _))⟩
 ·have e0:ops.toList.drop 9= [ops[9]'(by omega),ops[10]'(by omega),ops[11]'(by omega)]:=by
   rw[List.drop_eq_getElem_cons (by rw[Array.length_toList];omega),List.drop_eq_getElem_cons (by rw[Array.length_toList];omega),List.drop_eq_getElem_cons (by rw[Array.length_toList];omega),List.drop_eq_nil_of_le (by rw[Array.length_toList];omega)]
   simp only[Array.getElem_toList]
  rw[e0]
  obtain⟨hp1,hg1⟩:=hop_at 9 _ _ (Array.getElem?_eq_getElem (by omega)) rfl
  obtain⟨hp2,hg2⟩:=hop_at 10 _ _ (Array.getElem?_eq_getElem (by omega)) rfl
  obtain⟨hp3,hg3⟩:=hop_at 11 _ _ (Array.getElem?_eq_getElem (by omega)) rfl
  have hd1:=hds_at 9 _ _ (Array.getElem?_eq_getElem (by omega)) rfl
  have hd2:=hds_at 10 _ _ (Array.getElem?_eq_getElem (by omega)) rfl
  have hd3:=hds_at 11 _ _ (Array.getElem?_eq_getElem (by omega)) rfl
  have z1:=hall 1 (by omega)
  obtain⟨r',gb,z2,z3,z4⟩:=hall 8 (by omega)
  obtain⟨iD,hiD,hz0,hz1,hz2⟩:=NO
  have hts:(frm (L.take 61) mid (L.drop 72)).tmps.size=73:=by
   show((L.take 61)++mid++L.drop 72).toArray.size=73
   simp[List.length_take,List.length_drop,hL,hm]
  refine E0 (K:=AN) (r:=r') (y:=p) (m0:=N) Tryz.underlying36 hiD hz0 hz1 hz2 rfl (by decide) hp1 hg1 hd1 hp2 hg2 hd2 hp3 hg3 hd3 (fun a w K h1 h2=>KR _ _ _ hp2 h1 h2) (fun a w K old aa n c h1 h2 h3 h4 h5 h6=>LN _ _ _ _ old aa n c hp3 h1 h2 h3 h4 h5 h6) z1 z2 (hF3 mid) (by decide) (by decide) (by rw[hts];decide) (by rw[hts];decide) (hbd.bel' hb) hof hgd (by decide) (hac.below hb) z3 z4 (by omega) (fun b hb2=> ?_) (by have:=hb.size;omega) (by omega) (by simp only[maxLen];omega) fun ao cap W k1 k2 k3=> ?_
  ·obtain⟨xs,hown,_⟩:=hac.own
   have:=hown.lt b hb2
   omega
  ·have hF:(L.take 61).length=61:=by rw[List.length_take];omega
   rw[BZ hF (by rw[hm];decide),BZ hF (by rw[List.length_set,hm];decide)]
   exact hK _ ao cap W (by rw[List.length_set,List.length_set];exact hm) k1 k2 ((Ae.of_below hb _).trans k3 fun _ _ h=>h)
theorem OI {α:Type} {p:α→Bool} {l:List α} (h:∀j (hj:j<l.length),p l[j]=true):l.all p=true:=by
 rw[List.all_eq_true]
 intro x hx
 obtain⟨j,hj,rfl⟩:=List.getElem_of_mem hx
 exact h j hj
theorem Fj {α:Type} {p:α→Bool} {l:List α} {j:Nat} (hj:j<l.length) (h:p l[j]=false):l.all p=false:=by
 rw[List.all_eq_false]
 exact⟨l[j],List.getElem_mem hj,by rw[h];exact Bool.false_ne_true⟩
theorem Cq {wh:Int} {r:Ac}:Ay wh r=(decide ((Ab r).length≤32) && (Ab r).all fun x=>decide (CS x wh=0)):=by
 unfold Ay
 rw[BY]
 congr 1
 rw[Bool.eq_iff_iff,CP,List.all_eq_true]
 constructor
 ·intro h x hx
  obtain⟨j,hj,rfl⟩:=List.mem_map.1 hx
  exact h j (by simpa using hj)
 ·exact fun h j hj=>h _ (List.mem_map.2 ⟨j,by simpa using hj,rfl⟩)
structure Ed (w:World) (g:Nat) (c:Array Value) (W:World):Prop where
 bl:Below w.heap.size w W
 pb:Blk W g 29 c
theorem Ed.below {w W W':World} {g:Nat} {c:Array Value} (h:Ed w g c W) (hb:Below W.heap.size W W'):Ed w g c W':=⟨Aa h.bl hb,h.pb.below hb h.pb.lt⟩
theorem Ed.drewN {w W:World} {g:Nat} {c:Array Value} (h:Ed w g c W) (n:Nat):Ed w g c (W.drewN n):=⟨⟨h.bl.os,h.bl.tape,h.bl.output,h.bl.size,h.bl.block⟩,h.pb⟩
theorem Ed.facts {w W:World} {g:Nat} {c0 c1 c2 c3 c4 c5 c6 c7 c8 c9 c10 c11 c12 c13 c14:Value} (h:Ed w g #[c0,c1,c2,c3,c4,c5,c6,c7,c8,c9,c10,c11,c12,c13,c14] W):W.cell? ⟨g,0,none⟩=some c0∧W.cell? ⟨g,1,none⟩=some c1∧W.cell? ⟨g,2,none⟩=some c2∧W.cell? ⟨g,3,none⟩=some c3∧W.cell? ⟨g,4,none⟩=some c4∧W.cell? ⟨g,5,none⟩=some c5∧W.cell? ⟨g,6,none⟩=some c6∧W.cell? ⟨g,7,none⟩=some c7∧W.cell? ⟨g,8,none⟩=some c8∧W.cell? ⟨g,9,none⟩=some c9∧W.cell? ⟨g,10,none⟩=some c10∧W.cell? ⟨g,11,none⟩=some c11∧W.cell? ⟨g,12,none⟩=some c12∧W.cell? ⟨g,13,none⟩=some c13∧W.cell? ⟨g,14,none⟩=some c14∧g<W.heap.size:=
 ⟨h.pb.cell 0,h.pb.cell 1,h.pb.cell 2,h.pb.cell 3,h.pb.cell 4,h.pb.cell 5,h.pb.cell 6,h.pb.cell 7,h.pb.cell 8,h.pb.cell 9,h.pb.cell 10,h.pb.cell 11,h.pb.cell 12,h.pb.cell 13,h.pb.cell 14,h.pb.lt⟩
theorem Ej (p:Aq) (r:AE) (w:World) (hp:Ah Ai w p r) (hf:p.few):Calls Tryz.prog 49 #[p.val r] w fun e w'=>e= .returned (.bool (A9 p))∧Below w.heap.size w w':=by
 have HP:=Hd hp
 have hfl:=hp.files.bound
 obtain⟨⟨q1,q2,q3,e1⟩,⟨q4,q5,q6,e2⟩,⟨q7,q8,q9,e3⟩,⟨q10,q11,q12,e4⟩,⟨q13,q14,q15,e5⟩,⟨q16,q17,q18,e6⟩,⟨q19,q20,q21,e7⟩,⟨q22,q23,q24,e8⟩,_⟩:=hp.forms
 obtain⟨qa,qc,e9⟩:=hp.files.form
 have hs1:=hp.s1
 have hs4:=hp.s4
 rcases r with ⟨r0,r1,r2,r3,r4,r5,r6,r7,r8⟩
 dsimp only at e1 e2 e3 e4 e5 e6 e7 e8 e9
 subst e1 e2 e3 e4 e5 e6 e7 e8 e9
 obtain⟨n9,hn9⟩:∃n,n=p.files.length:=⟨_,rfl⟩
 obtain⟨T,hT⟩:∃T,T=A9 p:=⟨_,rfl⟩
 rw[←hT]
 obtain⟨S,hS⟩:∃S,S=DH p.arch:=⟨_,rfl⟩
 have hal:=Ik p.arch
 obtain⟨bn,hbn⟩:∃b,b=Ce p.name:=⟨_,rfl⟩
 obtain⟨bf,hbf⟩:∃b,b=BU p.name:=⟨_,rfl⟩
 obtain⟨be,hbe⟩:∃b,b=En p.ep p.ver p.rel false:=⟨_,rfl⟩
 obtain⟨ba,hba⟩:∃b,b=CV p.arch:=⟨_,rfl⟩
 obtain⟨bp,hbp⟩:∃b,b=Eb p.prov:=⟨_,rfl⟩
 obtain⟨bo,hbo⟩:∃b,b=Eb p.obs:=⟨_,rfl⟩
 obtain⟨b1,hb1⟩:∃b,b=Ay 1 p.req:=⟨_,rfl⟩
 obtain⟨b2,hb2⟩:∃b,b=Ay 2 p.con:=⟨_,rfl⟩
 obtain⟨b3,hb3⟩:∃b,b=Ay 1 p.reco:=⟨_,rfl⟩
 obtain⟨b4,hb4⟩:∃b,b=Ay 3 p.sup:=⟨_,rfl⟩
 obtain⟨b5,hb5⟩:∃b,b=Ay 1 p.sug:=⟨_,rfl⟩
 obtain⟨b6,hb6⟩:∃b,b=Ay 3 p.enh:=⟨_,rfl⟩
 have HM1:=Hd (fun w'=>(show Calls Tryz.prog 90 #[.string p.name] w' fun e w''=>e= .returned (.bool bn)∧w'=w'' from hbn▸E3 p.name w' hs1))
 have HM2:=Hd (fun w'=>(show Calls Tryz.prog 91 #[.string p.name] w' fun e w''=>e= .returned (.bool bf)∧w'=w'' from hbf▸E4 p.name w' hs1))
 have HM3:=Hd (fun w'=>(show Calls Tryz.prog 92 #[.agg #[.int .i64 p.ep,.string p.ver,.string p.rel],.bool false] w' fun e w''=>e= .returned (.bool be)∧Below w'.heap.size w' w'' from hbe▸Jb p.ep p.ver p.rel false w' hp.s2 hp.s3))
 have HM4:=Hd (fun w'=>(show Calls Tryz.prog 93 #[.int .u8 p.arch] w' fun e w''=>e= .returned (.string S)∧w'=w'' from hS▸Kr p.arch w'))
 have HD1:=Hd (fun w' (h:Below w.heap.size w w')=>Aw (Fx w _ _ hp.prov w' h) hbp.symm)
 have HD2:=Hd (fun w' (h:Below w.heap.size w w')=>Aw (Fx w _ _ hp.obs w' h) hbo.symm)
 have HR1:=Hd (fun w' (h:Below w.heap.size w w')=>Aw (BK w _ _ hp.req 1 (by decide) w' h (hf _ (by simp))) (Cq.symm.trans hb1.symm))
 have HR2:=Hd (fun w' (h:Below w.heap.size w w')=>Aw (BK w _ _ hp.con 2 (by decide) w' h (hf _ (by simp))) (Cq.symm.trans hb2.symm))
 have HR3:=Hd (fun w' (h:Below w.heap.size w w')=>Aw (BK w _ _ hp.reco 1 (by decide) w' h (hf _ (by simp))) (Cq.symm.trans hb3.symm))
 have HR4:=Hd (fun w' (h:Below w.heap.size w w')=>Aw (BK w _ _ hp.sup 3 (by decide) w' h (hf _ (by simp))) (Cq.symm.trans hb4.symm))
 have HR5:=Hd (fun w' (h:Below w.heap.size w w')=>Aw (BK w _ _ hp.sug 1 (by decide) w' h (hf _ (by simp))) (Cq.symm.trans hb5.symm))
 have HR6:=Hd (fun w' (h:Below w.heap.size w w')=>Aw (BK w _ _ hp.enh 3 (by decide) w' h (hf _ (by simp))) (Cq.symm.trans hb6.symm))
 have HT:=Hd (show T=((bn && (!bf && be)) && ((ba && decide (p.vendor.size≤64)) && ((bp && (bo && C8 p.files)) && (FL p.files && (b1 && (b2 && (b3 && (b4 && (b5 && b6))))))))) by rw[hT,hbn,hbf,hbe,hba,hbp,hbo,hb1,hb2,hb3,hb4,hb5,hb6];rfl)
 rw[←hba,←hS]at hal
 obtain⟨g,hg⟩:∃g,g=w.heap.size:=⟨_,rfl⟩
 obtain⟨W,hW⟩:∃W,W=w.alloc (.cells #[.string p.name,.int .i64 p.ep,.string p.ver,.string p.rel,.int .u8 p.arch,.string p.vendor,.slice q1 q2 q3,.slice q4 q5 q6,.slice q7 q8 q9,.slice q10 q11 q12,.slice q13 q14 q15,.slice q16 q17 q18,.slice q19 q20 q21,.slice q22 q23 q24,.slice qa p.files.length qc] 29):=⟨_,rfl⟩
 have HX:=Hd (show Ed w g #[.string p.name,.int .i64 p.ep,.string p.ver,.string p.rel,.int .u8 p.arch,.string p.vendor,.slice q1 q2 q3,.slice q4 q5 q6,.slice q7 q8 q9,.slice q10 q11 q12,.slice q13 q14 q15,.slice q16 q17 q18,.slice q19 q20 q21,.slice q22 q23 q24,.slice qa p.files.length qc] W from by rw[hW,hg];exact⟨Ag _ _,Blk.new _ _ _⟩)
 obtain⟨d0,d1,d2,d3,d4,d5,d6,d7,d8,d9,d10,d11,d12,d13,d14,dl⟩:=HX.out.facts
 clear hT hbn hbf hbe hba hbp hbo hb1 hb2 hb3 hb4 hb5 hb6 hp hf hs1 hs4 hS hn9
 obtain⟨bv,hbv⟩:∃b,b=decide (p.vendor.size≤64):=⟨_,rfl⟩
 rw[←hbv]at HT
 go_enter Tryz.func49,Tryz.ntmps49
 go_upto_region 1 with fail
 rw[←hW,←hg]
 clear hW hg
 by_cases hgood:ba=true∧bv=true∧p.files.length≤32
 ·obtain⟨rfl,rfl,h32⟩:=hgood
  have hv:¬(64:Int)<(p.vendor.size:Int):=by have:=of_decide_eq_true hbv.symm;omega
  have hv':decide (64<p.vendor.size)=false:=by have:=of_decide_eq_true hbv.symm;simpa using this
  have h32i:¬(32:Int)<(p.files.length:Int):=by omega
  have hS0:S.toList.isEmpty=false:=hal
  clear hal hbv
  go_upto_region 3 with (first
   |(go_at_call 90;(with_reducible refine(HM1.out _).mono ?_);rintro e w1 ⟨rfl,rfl⟩;cases bn)
   |(go_at_call 91;(with_reducible refine(HM2.out _).mono ?_);rintro e w1 ⟨rfl,rfl⟩;cases bf)
   |(go_at_call 92;(with_reducible refine(HM3.out _).mono ?_);rintro e w1 ⟨rfl,hb⟩;have HX:=Hd (HX.out.below hb);clear hb d0 d1 d2 d3 d4 d5 d6 d7 d8 d9 d10 d11 d12 d13 d14 dl;obtain⟨d0,d1,d2,d3,d4,d5,d6,d7,d8,d9,d10,d11,d12,d13,d14,dl⟩:=HX.out.facts;cases be)
   |(go_at_call 93;(with_reducible refine(HM4.out _).mono ?_);rintro e w1 ⟨rfl,rfl⟩)
   |fail)
  ·go_ret
   exact⟨congrArg (fun b=>Ending.returned (.bool b)) (show false=T by rw[HT.out];simp),HX.out.bl⟩
  ·go_ret
   exact⟨congrArg (fun b=>Ending.returned (.bool b)) (show false=T by rw[HT.out];simp),HX.out.bl⟩
  rotate_left
  ·go_ret
   exact⟨congrArg (fun b=>Ending.returned (.bool b)) (show false=T by rw[HT.out];simp),HX.out.bl⟩
  clear HM1 HM2 HM3 HM4 hS0 hv hv' h32i d0 d1 d2 d3 d4 d5 d6 d7 d8 d9 d10 d11 d12 d13 d14 dl
  go_wp2_with fail
  go_loopw [3] (fun i wr=>∃k:Nat,k≤p.files.length∧i= .int .i64 k∧Hid ((∀j (hj:j<p.files.length),j<k→BU p.files[j]=true)∧Kl p.files k∧Ed w g #[.string p.name,.int .i64 p.ep,.string p.ver,.string p.rel,.int .u8 p.arch,.string p.vendor,.slice q1 q2 q3,.slice q4 q5 q6,.slice q7 q8 q9,.slice q10 q11 q12,.slice q13 q14 q15,.slice q16 q17 q18,.slice q19 q20 q21,.slice q22 q23 q24,.slice qa p.files.length qc] wr)) (fun i _=>p.files.length-(intOf i).toNat)
  case atStart=>exact⟨0,by omega,rfl,⟨fun j _ h=>absurd h (Nat.not_lt_zero j),fun i _ h=>absurd h (Nat.not_lt_zero _),HX.out⟩⟩
  case round=>
   obtain⟨k,hk,rfl,HQ⟩:=hrel
   have HX:=Hd HQ.out.2.2
   obtain⟨d0,d1,d2,d3,d4,d5,d6,d7,d8,d9,d10,d11,d12,d13,d14,dl⟩:=HX.out.facts
   by_cases hlt:k<p.files.length
   ·have hki:(k:Int)<(p.files.length:Int):=by omega
    obtain⟨b,o,_,ha,_,hcs0,hh0⟩:=HP.out.files.at_ k hlt
    have hcs:=hcs0.below HX.out.bl
    obtain⟨xk,hxk⟩:∃x,x=p.files[k]:=⟨_,rfl⟩
    rw[←hxk]at hcs hh0
    dsimp only[A2]at hcs hh0
    rw[Nat.mul_one]at hcs
    have ek:wr.cell? ⟨b,o+k,none⟩=some (.string xk):=hcs.2 0 (show 0<1 by omega)
    have eb:b<wr.heap.size:=hcs.1
    have HLt:=Hd hlt
    obtain⟨fk,hfk⟩:∃q,q=BU xk:=⟨_,rfl⟩
    have HM5:Hid (∀m,Calls Tryz.prog 91 #[.string xk] (wr.drewN m) fun e w''=>e= .returned (.bool fk)∧w''=wr.drewN m):=Hd fun m=>(E4 xk (wr.drewN m) hh0).mono fun e w'' h=>⟨by rw[hfk];exact h.1,h.2.symm⟩
    have HFk:=Hd (show fk=BU p.files[k] by rw[hfk];exact congrArg BU hxk)
    have HXk:=Hd hxk
    clear hcs hcs0 hh0 hxk hfk
    cases fk with
    |false=>
     have HTf:=Hd (show T=false by
      have h:C8 p.files=false:=by unfold C8;rw[Fj HLt.out HFk.out.symm,Bool.and_false]
      rw[HT.out,h];simp)
     subst ha
     by_cases h0:0<k
     ·have h0d:decide (0<k)=true:=by simpa using h0
      go_wp2_with fail
      go_quiet (first|(go_at_call 91;exact Calls.quiet_of_same (HM5.out _)))
      go_wp2_with fail
      go_ret
      exact⟨congrArg (fun b=>Ending.returned (.bool b)) HTf.out.symm,(HX.out.drewN _).bl⟩
     ·obtain rfl:k=0:=by omega
      have ek':wr.cell? ⟨b,o,none⟩=some (.string xk):=ek
      go_wp2_with fail
      go_quiet (first|(go_at_call 91;exact Calls.quiet_of_same (HM5.out _)))
      go_wp2_with fail
      go_ret
      exact⟨congrArg (fun b=>Ending.returned (.bool b)) HTf.out.symm,(HX.out.drewN _).bl⟩
    |true=>
     have HAll:=Hd (show∀j (hj:j<p.files.length),j<k+1→BU p.files[j]=true from fun j hj h=>by
      by_cases e:j=k
      ·subst e
       exact HFk.out.symm
      ·exact HQ.out.1 j hj (by omega))
     by_cases h0:0<k
     ·obtain⟨m,hm⟩:∃m,k=m+1:=⟨k-1,by omega⟩
      have hml:m<p.files.length:=by omega
      obtain⟨b',o',_,ha',_,hcs0',_⟩:=HP.out.files.at_ m hml
      have hbo:b'=b∧o'=o:=by
       rw[ha]at ha'
       injection ha' with ha'
       injection ha' with e1 e2
       exact⟨e1.symm,e2.symm⟩
      obtain⟨rfl,rfl⟩:=hbo
      have hcs':=hcs0'.below HX.out.bl
      obtain⟨xm,hxm⟩:∃x,x=p.files[m]:=⟨_,rfl⟩
      rw[←hxm]at hcs'
      dsimp only[A2]at hcs'
      rw[Nat.mul_one]at hcs'
      have em:wr.cell? ⟨b',o'+m,none⟩=some (.string xm):=hcs'.2 0 (show 0<1 by omega)
      subst ha
      have h0i:(0:Int)<(k:Int):=by omega
      have h0d:decide (0<k)=true:=by simpa using h0
      have hm1:(k:Int)-1=(m:Int):=by omega
      have hm2:IntKind.i64.wrap ((k:Int)-1)=(m:Int):=by rw[IntKind.wrap_i64];omega
      have hmi:(m:Int)<(p.files.length:Int):=by omega
      have HL1:=Hd (show ltB xm xk=true→Kl p.files (k+1)from fun h i hi h2=>by
       by_cases e:i+1=k
       ·obtain rfl:i=m:=by omega
        have e2:p.files[i+1]=xk:=by rw[HXk.out];congr 1
        rw[e2,←hxm];exact h
       ·exact HQ.out.2.1 i hi (by omega))
      have HL2:=Hd (show ltB xm xk=false→T=false from fun h=>by
       have hr:FL p.files=false:=by
        cases hr:FL p.files with
        |false=>rfl
        |true=>
         have:=(DN _).1 hr m (by omega)
         have e2:p.files[m+1]'(by omega)=xk:=by rw[HXk.out];congr 1;omega
         rw[e2,←hxm,h]at this
         cases this
       rw[HT.out,hr];simp)
      clear hcs' hcs0' hxm ha' hm h0
      cases hl:ltB xm xk with
      |true=>
       have HL:=Hd (HL1.out hl)
       have hlb:Op.bytesLess xm.toList xk.toList=true:=hl
       clear hl hm1
       go_wp2_with fail
       go_quiet (first|(go_at_call 91;exact Calls.quiet_of_same (HM5.out _)))
       go_wp2_with fail
       go_roundw
       case rel=>exact⟨k+1,HLt.out,by go_num,⟨HAll.out,HL.out,HX.out.drewN _⟩⟩
       case measure=>have:=HLt.out;simp[intOf];omega
      |false=>
       have HTf:=Hd (HL2.out hl)
       have hlb:Op.bytesLess xm.toList xk.toList=false:=hl
       clear hl hm1
       go_wp2_with fail
       go_quiet (first|(go_at_call 91;exact Calls.quiet_of_same (HM5.out _)))
       go_wp2_with fail
       go_ret
       exact⟨congrArg (fun b=>Ending.returned (.bool b)) HTf.out.symm,(HX.out.drewN _).bl⟩
     ·obtain rfl:k=0:=by omega
      subst ha
      have ek':wr.cell? ⟨b,o,none⟩=some (.string xk):=ek
      have HL:=Hd (show Kl p.files 1 from fun i _ h2=>absurd h2 (by omega))
      go_wp2_with fail
      go_quiet (first|(go_at_call 91;exact Calls.quiet_of_same (HM5.out _)))
      go_wp2_with fail
      go_roundw
      case rel=>exact⟨1,HLt.out,by go_num,⟨HAll.out,HL.out,HX.out.drewN _⟩⟩
      case measure=>have:=HLt.out;simp[intOf];omega
   ·obtain rfl:k=p.files.length:=by omega
    have HFs:=Hd (show C8 p.files=true by unfold C8;rw[OI fun j hj=>HQ.out.1 j hj hj,decide_eq_true h32];rfl)
    have HRw:=Hd (show FL p.files=true from(DN _).2 fun i hi=>HQ.out.2.1 i hi hi)
    go_wp2_with (first
     |(go_at_call 94;(with_reducible refine(HD1.out _ HX.out.bl).mono ?_);rintro e w1 ⟨rfl,hb⟩;have HX:=Hd (HX.out.below hb);clear hb d0 d1 d2 d3 d4 d5 d6 d7 d8 d9 d10 d11 d12 d13 d14 dl;obtain⟨d0,d1,d2,d3,d4,d5,d6,d7,d8,d9,d10,d11,d12,d13,d14,dl⟩:=HX.out.facts;cases bp)
     |(go_at_call 94;(with_reducible refine(HD2.out _ HX.out.bl).mono ?_);rintro e w1 ⟨rfl,hb⟩;have HX:=Hd (HX.out.below hb);clear hb d0 d1 d2 d3 d4 d5 d6 d7 d8 d9 d10 d11 d12 d13 d14 dl;obtain⟨d0,d1,d2,d3,d4,d5,d6,d7,d8,d9,d10,d11,d12,d13,d14,dl⟩:=HX.out.facts;cases bo)
     |(go_at_call 95;(with_reducible refine(HR1.out _ HX.out.bl).mono ?_);rintro e w1 ⟨rfl,hb⟩;have HX:=Hd (HX.out.below hb);clear hb d0 d1 d2 d3 d4 d5 d6 d7 d8 d9 d10 d11 d12 d13 d14 dl;obtain⟨d0,d1,d2,d3,d4,d5,d6,d7,d8,d9,d10,d11,d12,d13,d14,dl⟩:=HX.out.facts;cases b1)
     |(go_at_call 95;(with_reducible refine(HR2.out _ HX.out.bl).mono ?_);rintro e w1 ⟨rfl,hb⟩;have HX:=Hd (HX.out.below hb);clear hb d0 d1 d2 d3 d4 d5 d6 d7 d8 d9 d10 d11 d12 d13 d14 dl;obtain⟨d0,d1,d2,d3,d4,d5,d6,d7,d8,d9,d10,d11,d12,d13,d14,dl⟩:=HX.out.facts;cases b2)
     |(go_at_call 95;(with_reducible refine(HR3.out _ HX.out.bl).mono ?_);rintro e w1 ⟨rfl,hb⟩;have HX:=Hd (HX.out.below hb);clear hb d0 d1 d2 d3 d4 d5 d6 d7 d8 d9 d10 d11 d12 d13 d14 dl;obtain⟨d0,d1,d2,d3,d4,d5,d6,d7,d8,d9,d10,d11,d12,d13,d14,dl⟩:=HX.out.facts;cases b3)
     |(go_at_call 95;(with_reducible refine(HR4.out _ HX.out.bl).mono ?_);rintro e w1 ⟨rfl,hb⟩;have HX:=Hd (HX.out.below hb);clear hb d0 d1 d2 d3 d4 d5 d6 d7 d8 d9 d10 d11 d12 d13 d14 dl;obtain⟨d0,d1,d2,d3,d4,d5,d6,d7,d8,d9,d10,d11,d12,d13,d14,dl⟩:=HX.out.facts;cases b4)
     |(go_at_call 95;(with_reducible refine(HR5.out _ HX.out.bl).mono ?_);rintro e w1 ⟨rfl,hb⟩;have HX:=Hd (HX.out.below hb);clear hb d0 d1 d2 d3 d4 d5 d6 d7 d8 d9 d10 d11 d12 d13 d14 dl;obtain⟨d0,d1,d2,d3,d4,d5,d6,d7,d8,d9,d10,d11,d12,d13,d14,dl⟩:=HX.out.facts;cases b5)
     |(go_at_call 95;(with_reducible refine(HR6.out _ HX.out.bl).mono ?_);rintro e w1 ⟨rfl,hb⟩;have HX:=Hd (HX.out.below hb);clear hb d0 d1 d2 d3 d4 d5 d6 d7 d8 d9 d10 d11 d12 d13 d14 dl;obtain⟨d0,d1,d2,d3,d4,d5,d6,d7,d8,d9,d10,d11,d12,d13,d14,dl⟩:=HX.out.facts;cases b6)
     |fail)
    all_goals
     go_ret
     exact⟨congrArg (fun b=>Ending.returned (.bool b)) (show _=T by rw[HT.out,HFs.out,HRw.out];simp),HX.out.bl⟩
 ·have HTf:=Hd (show T=false by
   cases T with
   |false=>rfl
   |true=>
    have h:=HT.out
    simp only[Bool.true_eq,Bool.and_eq_true]at h
    exact absurd ⟨h.2.1.1,h.2.1.2,by have h2:=h.2.2.1.2.2;unfold C8 at h2;simp only[Bool.and_eq_true,decide_eq_true_eq]at h2;exact h2.1⟩ hgood)
  cases ba with
  |false=>
   have hS0:S.toList.isEmpty=true:=hal
   clear hal hgood hbv
   go_wp2_with (first
    |(go_at_call 90;(with_reducible refine(HM1.out _).mono ?_);rintro e w1 ⟨rfl,rfl⟩;cases bn)
    |(go_at_call 91;(with_reducible refine(HM2.out _).mono ?_);rintro e w1 ⟨rfl,rfl⟩;cases bf)
    |(go_at_call 92;(with_reducible refine(HM3.out _).mono ?_);rintro e w1 ⟨rfl,hb⟩;have HX:=Hd (HX.out.below hb);clear hb d0 d1 d2 d3 d4 d5 d6 d7 d8 d9 d10 d11 d12 d13 d14 dl;obtain⟨d0,d1,d2,d3,d4,d5,d6,d7,d8,d9,d10,d11,d12,d13,d14,dl⟩:=HX.out.facts;cases be)
    |(go_at_call 93;(with_reducible refine(HM4.out _).mono ?_);rintro e w1 ⟨rfl,rfl⟩)
    |fail)
   all_goals
    go_ret
    exact⟨congrArg (fun b=>Ending.returned (.bool b)) HTf.out.symm,HX.out.bl⟩
  |true=>
   have hS0:S.toList.isEmpty=false:=hal
   clear hal
   by_cases hv0:p.vendor.size≤64
   ·have hv:¬(64:Int)<(p.vendor.size:Int):=by omega
    have hv':decide (64<p.vendor.size)=false:=by simpa using hv0
    have h32i:(32:Int)<(p.files.length:Int):=by
     by_cases h:p.files.length≤32
     ·exact absurd ⟨rfl,hbv.trans (decide_eq_true hv0),h⟩ hgood
     ·omega
    clear hgood hbv hv0
    go_wp2_with (first
     |(go_at_call 90;(with_reducible refine(HM1.out _).mono ?_);rintro e w1 ⟨rfl,rfl⟩;cases bn)
     |(go_at_call 91;(with_reducible refine(HM2.out _).mono ?_);rintro e w1 ⟨rfl,rfl⟩;cases bf)
     |(go_at_call 92;(with_reducible refine(HM3.out _).mono ?_);rintro e w1 ⟨rfl,hb⟩;have HX:=Hd (HX.out.below hb);clear hb d0 d1 d2 d3 d4 d5 d6 d7 d8 d9 d10 d11 d12 d13 d14 dl;obtain⟨d0,d1,d2,d3,d4,d5,d6,d7,d8,d9,d10,d11,d12,d13,d14,dl⟩:=HX.out.facts;cases be)
     |(go_at_call 93;(with_reducible refine(HM4.out _).mono ?_);rintro e w1 ⟨rfl,rfl⟩)
     |fail)
    all_goals
     go_ret
     exact⟨congrArg (fun b=>Ending.returned (.bool b)) HTf.out.symm,HX.out.bl⟩
   ·have hv:(64:Int)<(p.vendor.size:Int):=by omega
    have hv':decide (64<p.vendor.size)=true:=by simpa using hv0
    clear hgood hbv hv0
    go_wp2_with (first
     |(go_at_call 90;(with_reducible refine(HM1.out _).mono ?_);rintro e w1 ⟨rfl,rfl⟩;cases bn)
     |(go_at_call 91;(with_reducible refine(HM2.out _).mono ?_);rintro e w1 ⟨rfl,rfl⟩;cases bf)
     |(go_at_call 92;(with_reducible refine(HM3.out _).mono ?_);rintro e w1 ⟨rfl,hb⟩;have HX:=Hd (HX.out.below hb);clear hb d0 d1 d2 d3 d4 d5 d6 d7 d8 d9 d10 d11 d12 d13 d14 dl;obtain⟨d0,d1,d2,d3,d4,d5,d6,d7,d8,d9,d10,d11,d12,d13,d14,dl⟩:=HX.out.facts;cases be)
     |(go_at_call 93;(with_reducible refine(HM4.out _).mono ?_);rintro e w1 ⟨rfl,rfl⟩)
     |fail)
    all_goals
     go_ret
     exact⟨congrArg (fun b=>Ending.returned (.bool b)) HTf.out.symm,HX.out.bl⟩
end Go.Proofs.YtdpjjnbelgaagaaGreatDoor
