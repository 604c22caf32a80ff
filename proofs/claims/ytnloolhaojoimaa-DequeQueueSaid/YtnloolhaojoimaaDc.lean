/- MADE BY gen_dc.py: all parts. -/
import Derived.Test.YtnloolhaojoimaaDc0
